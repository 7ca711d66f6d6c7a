/- Texts of one proof, put together: UY UZ V1. -/
import Derived.Test.YtkabgmohgjljkaaGreatDoorZRD06
import Derived.Test.YtkabgmohgjljkaaGreatDoorZRD08

/- Runs: what a new thing does. -/
namespace Go.Proofs.YtkabgmohgjljkaaGreatDoor
set_option linter.unusedSimpArgs false
set_option linter.unusedVariables false
open Go Go.RowKit

set_option maxRecDepth 100000 in
theorem runnone_any (w : World) : Calls Tryz.prog 20 #[] w fun e w' => e = .returned (.agg #[.string ⟨#[110, 111, 110, 101]⟩, .int .i64 0]) ∧ Ext w w' := by
  have hB := Blk.new w #[.string ⟨#[]⟩, .int .i64 0] 50
  have z0 := hB.av 0 rfl
  have z1 := hB.av 1 rfl
  have f0 := hB.free 0
  have f1 := hB.free 1
  have hx : Ext w (((w.alloc (.cells #[.string ⟨#[]⟩, .int .i64 0] 50)).setCell ⟨w.heap.size, 0, none⟩ (.string ⟨#[110, 111, 110, 101]⟩)).setCell ⟨w.heap.size, 1, none⟩ (.int .i64 0)) :=
    Keep.new ((Ext.refl w).alloc _) ((Keep.set (X := fun g => g = w.heap.size) (Keep.refl _ _) rfl _).set rfl _) fun g e => by subst e; exact Nat.le_refl _
  have c0 := ((hB.set 0 (.string ⟨#[110, 111, 110, 101]⟩)).set 1 (.int .i64 0)).av 0 rfl
  have c1 := ((hB.set 0 (.string ⟨#[110, 111, 110, 101]⟩)).set 1 (.int .i64 0)).av 1 rfl
  simp only [List.setIfInBounds_toArray, List.set_cons_zero, List.set_cons_succ, List.getElem_toArray, List.getElem_cons_zero, List.getElem_cons_succ] at z0 z1 c0 c1
  go_enter Tryz.func20, Tryz.ntmps20
  go_wp2
  refine bodyPost_ret (v := .agg #[.string ⟨#[110, 111, 110, 101]⟩, .int .i64 0]) ?_ rfl ?_
  · simp [results, Tryz.results20, go_sem, c0, c1]
  exact ⟨rfl, (Ext.refl w).alloc _⟩

/-- append of one element to a row of one's own, where the order is left open. -/
theorem does_append_el {ops : Array Oper} {o : Oper} {a : Act} {w : World} {R : Value → World → Prop} (base : Nat) (hbase : base ≤ w.heap.size) (t e : TypeId) (z : Value) (size bytes : Nat) (ht : Tryz.prog.underlying t = some (.slice e)) (hinf : (Tryz.prog.info? e).map (fun i => (i.zero, i.size, i.bytes)) = some (some z, size, bytes)) (hz1 : z.cells.size = size) (hsz : 0 < size)
    (hb8 : bytes ≤ 64) (hg : o.guard = none) (s x : Operand) (ho : o.op = .call { callee := .builtin .append, args := #[s, x], argTypes := #[t, t] })
    (v : Value) (n : Nat) (xs : List Value) (hs : a.eval s = v) (hown : w.ownsRow base e size v n xs) (g : Nat) (us : List Value) (hul : us.length = size) (hu : ∀ u ∈ us, u.oneCell' = true) (hx : a.eval x = .slice (some ⟨g, 0, none⟩) 1 1) (hb : Blk w g us.toArray e) (hl : n ≤ 1000000)
    (h : ∀ v' w', w'.ownsRow base e size v' (n + 1) (xs ++ us) → Keep (fun k => v.ownBlock = some k) w w' → (v'.ownBlock = v.ownBlock ∨ v'.ownBlock = some w.heap.size) → R v' w') : does Tryz.prog ops o a w R := by
  obtain ⟨ti, hi, hz0, hz, hz2⟩ := info_parts hinf
  obtain ⟨v', w', hr, h2, h3, _, h4⟩ := run_append_own_at (P := Tryz.prog) w base t o.type e ti z size bytes ht hi hz0 hz hz2 hz1 hsz v n xs hown ⟨g, 0, none⟩ 1 1 us (by rw [hul]; omega) (fun j q hq => by
    rw [show (⟨g, 0, none⟩ : Addr).add j = ⟨g, j, none⟩ from by by_cases h0 : j = 0 <;> simp [Addr.add, h0], hb.cell j]
    simpa using hq) hu (by simp only [maxLen]; omega) (by
      have : (n + 1) * bytes ≤ (n + 1) * 64 := Nat.mul_le_mul_left _ hb8
      omega) hbase
  exact does_of_run hg (run_exec_append s x t ho hs hx hr) (h v' w' h2 (grown_keep h3) h4)

/-- The state while a thing is being made: the words of the state, its rows. -/
structure RnMid (w : World) (n0 sb : Nat) (vv tb pb tv pv : Value) (s : Rn) : Prop where
  blk : Blk w sb #[vv, tb, pb] 33
  lo : n0 ≤ sb
  vars : w.ownsRow n0 50 2 vv s.vars.length (s.vars.flatMap Vl.cells)
  things : w.ownsRow n0 50 2 tv s.things.length (s.things.flatMap Vl.cells)
  places : w.ownsRow n0 3 1 pv s.places.length (icells s.pl)
  ne : ∀ b, vv.ownBlock = some b → tv.ownBlock ≠ some b
theorem RnAt.mid {w : World} {n0 sb : Nat} {vv tv pv : Value} {s : Rn} (h : RnAt w n0 sb vv tv pv s) : RnMid w n0 sb vv tv pv tv pv s := ⟨h.blk, h.lo, h.vars, h.things, h.places, h.ne⟩
theorem RnMid.at {w : World} {n0 sb : Nat} {vv tv pv : Value} {s : Rn} (h : RnMid w n0 sb vv tv pv tv pv s) : RnAt w n0 sb vv tv pv s := ⟨h.blk, h.lo, h.vars, h.things, h.places, h.ne⟩
theorem RnMid.ext {w w' : World} {n0 sb : Nat} {vv tb pb tv pv : Value} {s : Rn} (h : RnMid w n0 sb vv tb pb tv pv s) (x : Ext w w') : RnMid w' n0 sb vv tb pb tv pv s :=
  ⟨h.blk.ext x, h.lo, own_ext h.vars x, own_ext h.things x, own_ext h.places x, h.ne⟩
theorem RnMid.grow {w w' : World} {n0 sb : Nat} {vv tb pb tv pv : Value} {s : Rn} (h : RnMid w n0 sb vv tb pb tv pv s) {t' : Value} (ho : w'.ownsRow n0 50 2 t' (s.things.length + 1) (s.things.flatMap Vl.cells ++ Vl.cells .none)) (k : Keep (fun q => tv.ownBlock = some q) w w') (hl : t'.ownBlock = tv.ownBlock ∨ t'.ownBlock = some w.heap.size) : RnMid w' n0 sb vv tb pb t' pv { s with things := s.things ++ [.none] } := by
  refine ⟨h.blk.keep k fun e => ?_, h.lo, row_keep h.vars k fun b hb e => h.ne b hb e, ?_, row_keep h.places k fun b hb e => ?_, fun b hb e => ?_⟩
  · obtain ⟨c, hc⟩ := own_ty h.things e
    exact Blk.ty_ne hc h.blk (by decide) rfl
  · have e : (s.things ++ [Vl.none]).flatMap Vl.cells = s.things.flatMap Vl.cells ++ Vl.cells .none := flat_snoc _ _
    simp only [List.length_append, List.length_singleton]
    rw [e]; exact ho
  · obtain ⟨c, hc⟩ := own_ty h.things e
    obtain ⟨d, hd⟩ := own_ty h.places hb
    exact Blk.ty_ne hc hd (by decide) rfl
  · rcases hl with hl | hl
    · exact h.ne b hb (hl ▸ e)
    · rw [hl] at e
      have := (World.ownsRow.lt h.vars b hb).2
      have : w.heap.size = b := by simpa using e
      omega
theorem RnMid.place {w w' : World} {n0 sb k : Nat} {vv tb pb tv pv : Value} {s : Rn} (h : RnMid w n0 sb vv tb pb tv pv s) {p' : Value} (ho : w'.ownsRow n0 3 1 p' (s.places.length + 1) (icells s.pl ++ [.int .i64 (k : Int)])) (kp : Keep (fun q => pv.ownBlock = some q) w w') : RnMid w' n0 sb vv tb pb tv p' { s with places := s.places ++ [k] } := by
  refine ⟨h.blk.keep kp fun e => ?_, h.lo, row_keep h.vars kp fun b hb e => ?_, row_keep h.things kp fun b hb e => ?_, ?_, h.ne⟩
  · obtain ⟨c, hc⟩ := own_ty h.places e
    exact Blk.ty_ne hc h.blk (by decide) rfl
  · obtain ⟨c, hc⟩ := own_ty h.vars hb
    obtain ⟨d, hd⟩ := own_ty h.places e
    exact Blk.ty_ne hc hd (by decide) rfl
  · obtain ⟨c, hc⟩ := own_ty h.things hb
    obtain ⟨d, hd⟩ := own_ty h.places e
    exact Blk.ty_ne hc hd (by decide) rfl
  · have e : icells (Rn.pl { s with places := s.places ++ [k] }) = icells s.pl ++ [.int .i64 (k : Int)] := by simp [Rn.pl, icells]
    simp only [List.length_append, List.length_singleton]
    rw [e]; exact ho
theorem RnMid.sets {w : World} {n0 sb : Nat} {vv tb pb tv pv : Value} {s : Rn} (h : RnMid w n0 sb vv tb pb tv pv s) : RnMid (w.setCell ⟨sb, 1, none⟩ tv) n0 sb vv tv pb tv pv s := by
  have k : Keep (fun q => q = sb) w (w.setCell ⟨sb, 1, none⟩ tv) := Keep.set (X := fun q => q = sb) (Keep.refl _ _) rfl _
  have hb := h.blk.set 1 tv
  simp only [List.setIfInBounds_toArray, List.set_cons_zero, List.set_cons_succ] at hb
  refine ⟨hb, h.lo, row_keep h.vars k fun b hb e => ?_, row_keep h.things k fun b hb e => ?_, row_keep h.places k fun b hb e => ?_, h.ne⟩
  · subst e; obtain ⟨c, hc⟩ := own_ty h.vars (by assumption); exact Blk.ty_ne hc h.blk (by decide) rfl
  · subst e; obtain ⟨c, hc⟩ := own_ty h.things (by assumption); exact Blk.ty_ne hc h.blk (by decide) rfl
  · subst e; obtain ⟨c, hc⟩ := own_ty h.places (by assumption); exact Blk.ty_ne hc h.blk (by decide) rfl
theorem RnMid.setp {w : World} {n0 sb : Nat} {vv tb pb tv pv : Value} {s : Rn} (h : RnMid w n0 sb vv tb pb tv pv s) : RnMid (w.setCell ⟨sb, 2, none⟩ pv) n0 sb vv tb pv tv pv s := by
  have k : Keep (fun q => q = sb) w (w.setCell ⟨sb, 2, none⟩ pv) := Keep.set (X := fun q => q = sb) (Keep.refl _ _) rfl _
  have hb := h.blk.set 2 pv
  simp only [List.setIfInBounds_toArray, List.set_cons_zero, List.set_cons_succ] at hb
  refine ⟨hb, h.lo, row_keep h.vars k fun b hb e => ?_, row_keep h.things k fun b hb e => ?_, row_keep h.places k fun b hb e => ?_, h.ne⟩
  · subst e; obtain ⟨c, hc⟩ := own_ty h.vars (by assumption); exact Blk.ty_ne hc h.blk (by decide) rfl
  · subst e; obtain ⟨c, hc⟩ := own_ty h.things (by assumption); exact Blk.ty_ne hc h.blk (by decide) rfl
  · subst e; obtain ⟨c, hc⟩ := own_ty h.places (by assumption); exact Blk.ty_ne hc h.blk (by decide) rfl

section
variable {P : Program} {ops : Array Oper} {X : Nat → Prop} {w0 : World} {Q : Act → World → Prop} {L : List Nat}
/-- From here on other blocks may be written, by number. -/
theorem Flow.turn1 {listed : Array Bool} {C : World → Prop} {a : Act} (Y : Nat → Prop) (i : Nat) (o : Oper) (ho : ops[i]? = some o) (hr : (Region.ready .any ops listed == [i]) = true)
    (hw : ((List.range listed.size).all fun j => !listed.getD j false || (L.contains j || waits2B ops i j)) = true) (R : Value → World → Prop)
    (hR : ∀ v w w', R v w → Ext w w' → R v w') (h : ∀ w, C w → Keep X w0 w → does P ops o a w (ActR Y w0 R))
    (k : ∀ v, (∃ w, R v w) → Flow P ops w0 Q Y L (listed.setIfInBounds i true) (R v) (a.put o.dst v)) : Flow P ops w0 Q X L listed C a :=
  Flow.turn Y i o R ho (by simpa using hr) (fun j hj => by
    have hjs : j < listed.size := by
      rcases Nat.lt_or_ge j listed.size with h | h
      · exact h
      · rw [Array.getD_eq_getD_getElem?, Array.getElem?_eq_none h] at hj; cases hj
    have h1 := List.all_eq_true.1 hw j (List.mem_range.2 hjs)
    rw [hj] at h1
    simp only [Bool.not_true, Bool.false_or, Bool.or_eq_true] at h1
    exact h1.imp (fun h => by simpa using h) waits2_of) h (fun v hv => Flow.mono (k v hv) fun _ ⟨_, hw, he⟩ => hR _ _ _ hw he)
theorem Flow.l {listed : Array Bool} {C : World → Prop} {a : Act} {v : Value} (i : Nat) (o : Oper) (ho : ops[i]? = some o) (hr : (Region.ready .any ops listed).contains i = true)
    (h : ∀ w, does P ops o a w (DetR v w)) (k : Flow P ops w0 Q X (i :: L) (listed.setIfInBounds i true) C (a.put o.dst v)) : Flow P ops w0 Q X L listed C a :=
  Flow.loose i o v ho (by simpa using hr) h k
end
/-- One number in a new block; one value that is none. -/
def IntOne (k : Nat) (u : Value) (w : World) : Prop := ∃ b, u = .slice (some ⟨b, 0, none⟩) 1 1 ∧ Blk w b #[.int .i64 (k : Int)] 3
theorem IntOne.ext {k : Nat} {u : Value} {w w' : World} (h : IntOne k u w) (x : Ext w w') : IntOne k u w' := by
  obtain ⟨b, e, hb⟩ := h
  exact ⟨b, e, hb.ext x⟩
theorem IntOne.mk (k : Nat) (w : World) : IntOne k (.slice (some ⟨w.heap.size, 0, none⟩) 1 1) (w.alloc (.cells #[.int .i64 (k : Int)] 3)) := ⟨_, rfl, Blk.new _ _ _⟩
theorem IntOne.keep {X : Nat → Prop} {k : Nat} {u : Value} {w w' : World} (h : IntOne k u w) (x : Keep X w w') (hX : ∀ i, X i → ∃ c, Blk w i c 50) : IntOne k u w' := by
  obtain ⟨b, e, hb⟩ := h
  refine ⟨b, e, hb.keep x fun hx => ?_⟩
  obtain ⟨c, hc⟩ := hX b hx
  exact Blk.ty_ne hb hc (by decide) rfl
def NoneOne (u : Value) (w : World) : Prop := ∃ b, u = .slice (some ⟨b, 0, none⟩) 1 1 ∧ Blk w b (Vl.cells .none).toArray 50
theorem NoneOne.ext {u : Value} {w w' : World} (h : NoneOne u w) (x : Ext w w') : NoneOne u w' := by
  obtain ⟨b, e, hb⟩ := h
  exact ⟨b, e, hb.ext x⟩
theorem NoneOne.mk (w : World) : NoneOne (.slice (some ⟨w.heap.size, 0, none⟩) 1 1) (w.alloc (.cells #[.string ⟨#[110, 111, 110, 101]⟩, .int .i64 0] 50)) := ⟨_, rfl, Blk.new _ _ _⟩
set_option maxRecDepth 100000 in
set_option maxHeartbeats 12800000 in
theorem stdo_new (a1 a2 a3 : Option Addr) (c1 c2 c3 : Nat) (P : PP) (k : Nat) (x : PS) (hxk : P.stmts[k]? = some x) (hg : P.Good x) (hkx : x.isK kNew = true)  (s : Rn) (hs : s.Ok P) (w : World) (n0 sb : Nat) (vv tv pv : Value) (hR : RnAt w n0 sb vv tv pv s) (hP : ProgR w n0 (.slice a1 P.vars.length c1) (.slice a2 P.funs.length c2) (.slice a3 P.stmts.length c3) P) (hn0 : n0 ≤ w.heap.size) (hsm : s.things.length ≤ 100000) :
    Calls Tryz.prog 21 #[.pointer (some ⟨sb, 0, none⟩), pval a1 a2 a3 c1 c2 c3 P, .int .i64 (k : Int)] w fun e w' => e = .returned (.tuple #[]) ∧ (∃ vv' tv' pv', RnAt w' n0 sb vv' tv' pv' (s.stmt P k x)) ∧ Old n0 w w' := by
  have hk : k < P.stmts.length := by
    rcases Nat.lt_or_ge k P.stmts.length with h | h
    · exact h
    · rw [List.getElem?_eq_none h] at hxk; cases hxk
  have hml := hP.stmts.len
  obtain ⟨W1, hW1⟩ : ∃ W1, W1 = w.alloc (.cells (pcells a1 a2 a3 c1 c2 c3 P) 26) := ⟨_, rfl⟩
  have hx1 : Ext w W1 := by rw [hW1]; exact (Ext.refl _).alloc _
  obtain ⟨y, x', av, cv, rfl, hxk', e0, e1, e2, e3, hI⟩ := (hP.ext hx1).stmts.at hk
  obtain rfl := Option.some.inj (hxk.symm.trans hxk')
  obtain ⟨W2, hW2⟩ : ∃ W2, W2 = W1.alloc (.cells (scells x av cv) 58) := ⟨_, rfl⟩
  have hx2 : Ext W1 W2 := by rw [hW2]; exact (Ext.refl _).alloc _
  have HW2 := hid (hx1.trans hx2)
  have HB1 : Hid (Blk W2 w.heap.size (pcells a1 a2 (some y) c1 c2 c3 P) 26) := hid (by
    have : Blk W1 w.heap.size (pcells a1 a2 (some y) c1 c2 c3 P) 26 := by rw [hW1]; exact Blk.new _ _ _
    exact this.ext hx2)
  have hs1 : W1.heap.size = w.heap.size + 1 := by rw [hW1, heap_size_alloc]
  have HB2 : Hid (Blk W2 (w.heap.size + 1) (scells x av cv) 58) := hid (by
    rw [← hs1, hW2]; exact Blk.new _ _ _)
  have HR2 := hid (hR.ext HW2.out)
  have HP2 := hid (hP.ext HW2.out)
  have HI := hid (hI.old (hx2.old n0))
  have Hs := hid hs
  have Hg := hid hg
  have Hn0 := hid hn0
  have hgx := hg.gx
  rw [hW1] at e0 e1 e2 e3
  have HW2e : Hid (W2 = (w.alloc (.cells #[.slice a1 P.vars.length c1, .slice a2 P.funs.length c2, .slice (some y) P.stmts.length c3] 26)).alloc (.cells #[.string x.kind, .int .i64 x.x, .int .i64 x.y, .slice av x.args.length cv] 58)) := hid (by rw [hW2, hW1]; rfl)
  unfold pcells at e0 e1 e2 e3
  obtain ⟨X, hX⟩ := Int.eq_ofNat_of_zero_le hgx.1
  have HX : Hid (X < s.vars.length) := hid (by rw [hs.lv]; omega)
  have HXe := hid hX
  have hXl := HX.out
  obtain ⟨g, cap, hvv⟩ := own_some hR.vars (by have := HX.out; omega)
  subst hvv
  have hnv : s.vars.length = P.vars.length := hs.lv
  have d0 := HR2.out.blk.kc (X := fun _ => False) (fun e => e) 0 rfl
  have d1 := HR2.out.blk.kc (X := fun _ => False) (fun e => e) 1 rfl
  have d2 := HR2.out.blk.kc (X := fun _ => False) (fun e => e) 2 rfl
  have m1 := HB2.out.kc (X := fun _ => False) (fun e => e) 1 rfl
  have m2 := HB2.out.kc (X := fun _ => False) (fun e => e) 2 rfl
  have m3 := HB2.out.kc (X := fun _ => False) (fun e => e) 3 rfl
  simp only [scells, List.getElem_toArray, List.getElem_cons_zero, List.getElem_cons_succ] at d0 d1 d2 m1 m2 m3
  rw [hX] at m1
  have hsbl := hR.blk.lt
  have Hkx := hid hkx
  have hkk := hkx
  unfold PS.isK kNew at hkk
  clear hxk hxk' hW1 hW2 hx1 hx2 hs1 hR hP hI hs hg hX hgx hkx hn0
  unfold pval
  have h1 : (x.kind.toList == [97, 100, 100, 114]) = false := isK_ne Hkx.out (k' := kAddr) rfl
  have h2 : (x.kind.toList == [99, 111, 112, 121]) = false := isK_ne Hkx.out (k' := kCopy) rfl
  have h3 : (x.kind.toList == [108, 111, 97, 100]) = false := isK_ne Hkx.out (k' := kLoad) rfl
  have h4 : (x.kind.toList == [115, 116, 111, 114, 101]) = false := isK_ne Hkx.out (k' := kStore) rfl
  obtain ⟨ta, tc, rfl⟩ := row_form HR2.out.things
  obtain ⟨pa, pc, rfl⟩ := row_form HR2.out.places
  have hsN : Hid (¬ ((Value.slice ta s.things.length tc).ownBlock = some sb ∨ (Value.slice pa s.places.length pc).ownBlock = some sb)) := hid (by
    rintro (e | e)
    · exact HR2.out.tb e rfl
    · exact HR2.out.pb e rfl)
  have e1 := HR2.out.blk.kc (X := fun q => (Value.slice ta s.things.length tc).ownBlock = some q ∨ (Value.slice pa s.places.length pc).ownBlock = some q) hsN.out 1 rfl
  have e2 := HR2.out.blk.kc (X := fun q => (Value.slice ta s.things.length tc).ownBlock = some q ∨ (Value.slice pa s.places.length pc).ownBlock = some q) hsN.out 2 rfl
  simp only [List.getElem_toArray, List.getElem_cons_zero, List.getElem_cons_succ] at e1 e2
  have Hsm := hid hsm
  have Hsp : Hid (s.places.length ≤ 1000000) := hid (by rw [Hs.out.lp]; omega)
  have Hnb : Hid (n0 ≤ W2.heap.size) := hid (Nat.le_trans Hn0.out HW2.out.size)
  have HYo : Hid (∀ q, q < W2.heap.size → (((Value.slice ta s.things.length tc).ownBlock = some q ∨ (Value.slice pa s.places.length pc).ownBlock = some q) ∨ q = sb) → n0 ≤ q) := hid fun q _ h => h.elim (fun h => h.elim (fun e => HR2.out.tlo e) (fun e => (World.ownsRow.lt HR2.out.places q e).1)) (fun e => e ▸ HR2.out.lo)
  have HNb2 : Hid (¬ (((Value.slice ta s.things.length tc).ownBlock = some (w.heap.size + 1) ∨ (Value.slice pa s.places.length pc).ownBlock = some (w.heap.size + 1)) ∨ w.heap.size + 1 = sb)) := hid (by
    rintro ((e | e) | e)
    · obtain ⟨c, hc⟩ := own_ty HR2.out.things e
      exact Blk.ty_ne hc HB2.out (by decide) rfl
    · obtain ⟨c, hc⟩ := own_ty HR2.out.places e
      exact Blk.ty_ne hc HB2.out (by decide) rfl
    · omega)
  have HNo : ∀ w1, Hid (Calls Tryz.prog 20 #[] w1 fun e w' => e = .returned (.agg #[.string ⟨#[110, 111, 110, 101]⟩, .int .i64 0]) ∧ Ext w1 w') := fun w1 => hid (runnone_any w1)
  have Hnv := hid hnv
  clear d0 d1 d2 m2 m3 hnv
  go_enter Tryz.func21, Tryz.ntmps21
  go_wp2
  rw [← HW2e.out]
  refine wp_flow (fun q => (Value.slice ta s.things.length tc).ownBlock = some q ∨ (Value.slice pa s.places.length pc).ownBlock = some q) (by kernel_rfl) (by kernel_rfl) ?_
  apply Flow.d 0 _ rfl (by simp) (by kernel_rfl)
  · intro w1 hk; unfold does; go_simp; (try go_ints); exact DetR.mk
  simp only [List.getElem_toArray, List.getElem_cons_zero, List.getElem_cons_succ, Act.put, List.setIfInBounds_toArray, List.set_cons_zero, List.set_cons_succ]
  apply Flow.l 1 _ rfl (by kernel_rfl)
  · intro w1; unfold does; go_simp; exact DetR.mk
  simp only [List.getElem_toArray, List.getElem_cons_zero, List.getElem_cons_succ, Act.put, List.setIfInBounds_toArray, List.set_cons_zero, List.set_cons_succ]
  apply Flow.d 2 _ rfl (by simp) (by kernel_rfl)
  · intro w1 hk; unfold does; go_simp; (try go_ints); exact DetR.mk
  simp only [List.getElem_toArray, List.getElem_cons_zero, List.getElem_cons_succ, Act.put, List.setIfInBounds_toArray, List.set_cons_zero, List.set_cons_succ]
  apply Flow.d 3 _ rfl (by simp) (by kernel_rfl)
  · intro w1 hk; unfold does; go_simp; (try go_ints); exact DetR.mk
  simp only [List.getElem_toArray, List.getElem_cons_zero, List.getElem_cons_succ, Act.put, List.setIfInBounds_toArray, List.set_cons_zero, List.set_cons_succ]
  apply Flow.d 4 _ rfl (by simp) (by kernel_rfl)
  · intro w1 hk; unfold does; go_simp; (try go_ints); exact DetR.mk
  simp only [List.getElem_toArray, List.getElem_cons_zero, List.getElem_cons_succ, Act.put, List.setIfInBounds_toArray, List.set_cons_zero, List.set_cons_succ]
  apply Flow.d 5 _ rfl (by simp) (by kernel_rfl)
  · intro w1 hk; unfold does; go_simp; (try go_ints); exact DetR.mk
  simp only [List.getElem_toArray, List.getElem_cons_zero, List.getElem_cons_succ, Act.put, List.setIfInBounds_toArray, List.set_cons_zero, List.set_cons_succ]
  apply Flow.d 6 _ rfl (by simp) (by kernel_rfl)
  · intro w1 hk
    unfold does
    go_simp
    exact CallR.det (HNo w1).out
  simp only [List.getElem_toArray, List.getElem_cons_zero, List.getElem_cons_succ, Act.put, List.setIfInBounds_toArray, List.set_cons_zero, List.set_cons_succ]
  apply Flow.l 9 _ rfl (by kernel_rfl)
  · intro w1; unfold does; go_simp; exact DetR.mk
  simp only [List.getElem_toArray, List.getElem_cons_zero, List.getElem_cons_succ, Act.put, List.setIfInBounds_toArray, List.set_cons_zero, List.set_cons_succ]
  apply Flow.l 10 _ rfl (by kernel_rfl)
  · intro w1; unfold does; go_simp; exact DetR.mk
  simp only [List.getElem_toArray, List.getElem_cons_zero, List.getElem_cons_succ, Act.put, List.setIfInBounds_toArray, List.set_cons_zero, List.set_cons_succ]
  apply Flow.l 11 _ rfl (by kernel_rfl)
  · intro w1; unfold does; go_simp; exact DetR.mk
  simp only [List.getElem_toArray, List.getElem_cons_zero, List.getElem_cons_succ, Act.put, List.setIfInBounds_toArray, List.set_cons_zero, List.set_cons_succ]
  apply Flow.d 12 _ rfl (by simp) (by kernel_rfl)
  · intro w1 hk; unfold does; go_simp; (try go_ints); exact DetR.mk
  simp only [List.getElem_toArray, List.getElem_cons_zero, List.getElem_cons_succ, Act.put, List.setIfInBounds_toArray, List.set_cons_zero, List.set_cons_succ]
  apply Flow.l 13 _ rfl (by kernel_rfl)
  · intro w1; unfold does; go_simp; exact DetR.mk
  simp only [List.getElem_toArray, List.getElem_cons_zero, List.getElem_cons_succ, Act.put, List.setIfInBounds_toArray, List.set_cons_zero, List.set_cons_succ]
  refine Flow.par3g 7 8 14 _ _ _ rfl rfl rfl (by decide) (by decide) (fun _ _ h => by cases h) (fun _ _ h => by cases h) (fun _ _ h => by cases h) (by kernel_rfl) (by kernel_rfl) (by kernel_rfl) (by kernel_rfl) (by kernel_rfl) (by kernel_rfl)
    (fun u w' => IntOne k u w' ∧ RnMid w' n0 sb (.slice (some ⟨g, 0, none⟩) s.vars.length cap) (.slice ta s.things.length tc) (.slice pa s.places.length pc) (.slice ta s.things.length tc) (.slice pa s.places.length pc) s ∧ n0 ≤ w'.heap.size)
    (fun v w' => NoneOne v w' ∧ RnMid w' n0 sb (.slice (some ⟨g, 0, none⟩) s.vars.length cap) (.slice ta s.things.length tc) (.slice pa s.places.length pc) (.slice ta s.things.length tc) (.slice pa s.places.length pc) s ∧ n0 ≤ w'.heap.size)
    (fun u v w' => IntOne k u w' ∧ NoneOne v w' ∧ RnMid w' n0 sb (.slice (some ⟨g, 0, none⟩) s.vars.length cap) (.slice ta s.things.length tc) (.slice pa s.places.length pc) (.slice ta s.things.length tc) (.slice pa s.places.length pc) s ∧ n0 ≤ w'.heap.size)
    (fun _ t w' => (∃ a c, t = .slice a (s.things.length + 1) c) ∧ RnMid w' n0 sb (.slice (some ⟨g, 0, none⟩) s.vars.length cap) (.slice ta s.things.length tc) (.slice pa s.places.length pc) t (.slice pa s.places.length pc) { s with things := s.things ++ [.none] } ∧ n0 ≤ w'.heap.size)
    (fun u _ t w' => IntOne k u w' ∧ (∃ a c, t = .slice a (s.things.length + 1) c) ∧ RnMid w' n0 sb (.slice (some ⟨g, 0, none⟩) s.vars.length cap) (.slice ta s.things.length tc) (.slice pa s.places.length pc) t (.slice pa s.places.length pc) { s with things := s.things ++ [.none] } ∧ n0 ≤ w'.heap.size)
    (fun _ _ _ h y => ⟨h.1.ext y, h.2.1.ext y, Nat.le_trans h.2.2 y.size⟩) (fun _ _ _ h y => ⟨h.1.ext y, h.2.1.ext y, Nat.le_trans h.2.2 y.size⟩)
    (fun _ _ _ _ h y => ⟨h.1.ext y, h.2.1.ext y, h.2.2.1.ext y, Nat.le_trans h.2.2.2 y.size⟩) (fun _ _ _ _ h y => ⟨h.1, h.2.1.ext y, Nat.le_trans h.2.2 y.size⟩) (fun _ _ _ _ _ h y => ⟨h.1.ext y, h.2.1, h.2.2.1.ext y, Nat.le_trans h.2.2.2 y.size⟩) ?_ ?_ ?_ ?_ ?_ ?_ ?_ ?_
  · intro wa hC hk
    unfold does
    go_simp
    exact ⟨hk.alloc _, IntOne.mk k wa, (HR2.out.mid.ext hC).ext ((Ext.refl _).alloc _), Nat.le_trans Hnb.out (hC.alloc _).size⟩
  · intro wa hC hk
    unfold does
    go_simp
    exact ⟨hk.alloc _, NoneOne.mk wa, (HR2.out.mid.ext hC).ext ((Ext.refl _).alloc _), Nat.le_trans Hnb.out (hC.alloc _).size⟩
  · rintro _ wa ⟨hN, hM, hn⟩ hk
    unfold does
    go_simp
    exact ⟨hk.alloc _, IntOne.mk k wa, hN.ext ((Ext.refl _).alloc _), hM.ext ((Ext.refl _).alloc _), Nat.le_trans hn ((Ext.refl _).alloc _).size⟩
  · rintro _ wa ⟨hI, hM, hn⟩ hk
    unfold does
    go_simp
    exact ⟨hk.alloc _, hI.ext ((Ext.refl _).alloc _), NoneOne.mk wa, hM.ext ((Ext.refl _).alloc _), Nat.le_trans hn ((Ext.refl _).alloc _).size⟩
  · rintro _ wa ⟨⟨b, rfl, hb⟩, hM, hn⟩ hk
    refine does_append_el n0 hn 31 50 (.agg #[.string ⟨#[]⟩, .int .i64 0]) 2 24 Tryz.underlying31 rval_info rfl (by omega) (by omega) rfl _ _ rfl (.slice ta s.things.length tc) s.things.length (s.things.flatMap Vl.cells) rfl hM.things b (Vl.cells .none) rfl (by simp [Vl.cells, Value.oneCell']) rfl hb (by have := Hsm.out; omega) ?_
    intro v' w' ho hk' hl
    exact ⟨hk.trans (hk'.mono fun q _ e => .inl e), row_form ho, hM.grow ho hk' hl, Nat.le_trans hn hk'.size⟩
  · rintro u _ wa ⟨hI, ⟨b, rfl, hb⟩, hM, hn⟩ hk
    refine does_append_el n0 hn 31 50 (.agg #[.string ⟨#[]⟩, .int .i64 0]) 2 24 Tryz.underlying31 rval_info rfl (by omega) (by omega) rfl _ _ rfl (.slice ta s.things.length tc) s.things.length (s.things.flatMap Vl.cells) rfl hM.things b (Vl.cells .none) rfl (by simp [Vl.cells, Value.oneCell']) rfl hb (by have := Hsm.out; omega) ?_
    intro v' w' ho hk' hl
    exact ⟨hk.trans (hk'.mono fun q _ e => .inl e), hI.keep hk' (fun i hi => by
      obtain ⟨c, hc⟩ := own_ty hM.things hi
      exact ⟨c, hc⟩), row_form ho, hM.grow ho hk' hl, Nat.le_trans hn hk'.size⟩
  · rintro _ _ _ ⟨_, ⟨b, rfl, _⟩, ⟨at', ct', rfl⟩, _, _⟩
    simp only [List.getElem_toArray, List.getElem_cons_zero, List.getElem_cons_succ, Act.put, List.setIfInBounds_toArray, List.set_cons_zero, List.set_cons_succ]
    refine Flow.one 15 _ rfl (by kernel_rfl) (fun u w' => (∃ a c, u = .slice a (s.places.length + 1) c) ∧ RnMid w' n0 sb (.slice (some ⟨g, 0, none⟩) s.vars.length cap) (.slice ta s.things.length tc) (.slice pa s.places.length pc) (.slice at' (s.things.length + 1) ct') u { s with things := s.things ++ [.none], places := s.places ++ [k] }) (fun _ _ _ h y => ⟨h.1, h.2.ext y⟩) ?_ ?_
    · rintro wa ⟨⟨b', eb, hb⟩, hC⟩ hk
      obtain rfl : b = b' := by simpa using eb
      obtain ⟨hM, hn⟩ : RnMid wa n0 sb (.slice (some ⟨g, 0, none⟩) s.vars.length cap) (.slice ta s.things.length tc) (.slice pa s.places.length pc) (.slice at' (s.things.length + 1) ct') (.slice pa s.places.length pc) { s with things := s.things ++ [.none] } ∧ n0 ≤ wa.heap.size := by first | exact hC.2 | exact hC
      refine does_append_el n0 hn 27 3 (.int .i64 0) 1 8 Tryz.underlying27 ints_info rfl (by omega) (by omega) rfl _ _ rfl (.slice pa s.places.length pc) s.places.length (icells s.pl) rfl hM.places b [.int .i64 (k : Int)] rfl (by simp [Value.oneCell']) rfl hb Hsp.out ?_
      intro v' w' ho hk' hl
      exact ⟨hk.trans (hk'.mono fun q _ e => .inr e), row_form ho, hM.place ho hk'⟩
    rintro _ ⟨_, ⟨ap, cp, rfl⟩, _⟩
    simp only [List.getElem_toArray, List.getElem_cons_zero, List.getElem_cons_succ, Act.put, List.setIfInBounds_toArray, List.set_cons_zero, List.set_cons_succ]
    apply Flow.d 16 _ rfl (by simp) (by kernel_rfl)
    · intro w1 hk; unfold does; go_simp; (try go_ints); exact DetR.mk
    simp only [List.getElem_toArray, List.getElem_cons_zero, List.getElem_cons_succ, Act.put, List.setIfInBounds_toArray, List.set_cons_zero, List.set_cons_succ]
    apply Flow.d 17 _ rfl (by simp) (by kernel_rfl)
    · intro w1 hk; unfold does; go_simp; (try go_ints); exact DetR.mk
    simp only [List.getElem_toArray, List.getElem_cons_zero, List.getElem_cons_succ, Act.put, List.setIfInBounds_toArray, List.set_cons_zero, List.set_cons_succ]
    refine Flow.turn1 (fun q => ((Value.slice ta s.things.length tc).ownBlock = some q ∨ (Value.slice pa s.places.length pc).ownBlock = some q) ∨ q = sb) 18 _ rfl (by kernel_rfl) (by kernel_rfl) (fun _ w' => RnMid w' n0 sb (.slice (some ⟨g, 0, none⟩) s.vars.length cap) (.slice at' (s.things.length + 1) ct') (.slice pa s.places.length pc) (.slice at' (s.things.length + 1) ct') (.slice ap (s.places.length + 1) cp) { s with things := s.things ++ [.none], places := s.places ++ [k] }) (fun _ _ _ h y => h.ext y) ?_ ?_
    · rintro wa ⟨_, hM⟩ hk
      have z1 := hM.blk.av 1 rfl
      have f1 := hM.blk.free 1
      have hM2 := hM.sets
      have hk3 : Keep (fun q => ((Value.slice ta s.things.length tc).ownBlock = some q ∨ (Value.slice pa s.places.length pc).ownBlock = some q) ∨ q = sb) W2 (wa.setCell ⟨sb, 1, none⟩ (.slice at' (s.things.length + 1) ct')) := (hk.mono fun _ _ h => .inl h).trans (Keep.set (X := fun q => ((Value.slice ta s.things.length tc).ownBlock = some q ∨ (Value.slice pa s.places.length pc).ownBlock = some q) ∨ q = sb) (Keep.refl _ _) (.inr rfl) _)
      clear hk
      unfold does
      go_simp
      exact ⟨hk3, hM2⟩
    rintro _ ⟨_, _⟩
    simp only [List.getElem_toArray, List.getElem_cons_zero, List.getElem_cons_succ, Act.put, List.setIfInBounds_toArray, List.set_cons_zero, List.set_cons_succ]
    apply Flow.d 19 _ rfl (by simp) (by kernel_rfl)
    · intro w1 hk; unfold does; go_simp; (try go_ints); exact DetR.mk
    simp only [List.getElem_toArray, List.getElem_cons_zero, List.getElem_cons_succ, Act.put, List.setIfInBounds_toArray, List.set_cons_zero, List.set_cons_succ]
    apply Flow.d 20 _ rfl (by simp) (by kernel_rfl)
    · intro w1 hk; unfold does; go_simp; (try go_ints); exact DetR.mk
    simp only [List.getElem_toArray, List.getElem_cons_zero, List.getElem_cons_succ, Act.put, List.setIfInBounds_toArray, List.set_cons_zero, List.set_cons_succ]
    refine Flow.one 21 _ rfl (by kernel_rfl) (fun _ w' => RnMid w' n0 sb (.slice (some ⟨g, 0, none⟩) s.vars.length cap) (.slice at' (s.things.length + 1) ct') (.slice ap (s.places.length + 1) cp) (.slice at' (s.things.length + 1) ct') (.slice ap (s.places.length + 1) cp) { s with things := s.things ++ [.none], places := s.places ++ [k] }) (fun _ _ _ h y => h.ext y) ?_ ?_
    · rintro wa hM hk
      have z1 := hM.blk.av 2 rfl
      have f1 := hM.blk.free 2
      have hM2 := hM.setp
      have hk3 : Keep (fun q => ((Value.slice ta s.things.length tc).ownBlock = some q ∨ (Value.slice pa s.places.length pc).ownBlock = some q) ∨ q = sb) W2 (wa.setCell ⟨sb, 2, none⟩ (.slice ap (s.places.length + 1) cp)) := hk.trans (Keep.set (X := fun q => ((Value.slice ta s.things.length tc).ownBlock = some q ∨ (Value.slice pa s.places.length pc).ownBlock = some q) ∨ q = sb) (Keep.refl _ _) (.inr rfl) _)
      clear hk
      unfold does
      go_simp
      exact ⟨hk3, hM2⟩
    rintro _ ⟨_, _⟩
    simp only [List.getElem_toArray, List.getElem_cons_zero, List.getElem_cons_succ, Act.put, List.setIfInBounds_toArray, List.set_cons_zero, List.set_cons_succ]
    refine Flow.fin (by kernel_rfl) fun w9 hM9 hk9 => ?_
    have HR9 := hid hM9.at
    have HB9 := hid (HB2.out.keep hk9 HNb2.out)
    have HW9 := hid ((HW2.out.old n0).trans (hk9.mono HYo.out))
    have d0 := HR9.out.blk.kc (X := fun _ => False) (fun e => e) 0 rfl
    have d1 := HR9.out.blk.kc (X := fun _ => False) (fun e => e) 1 rfl
    have m1' := HB9.out.kc (X := fun _ => False) (fun e => e) 1 rfl
    simp only [scells, List.getElem_toArray, List.getElem_cons_zero, List.getElem_cons_succ] at d0 d1 m1'
    rw [HXe.out] at m1'
    clear hM9 hk9 m1 e1 e2
    go_wp2
    refine wp_flowT (fun _ => False) (by kernel_rfl) (by kernel_rfl) ?_
    repeat (apply FlowT.d; (intro w1 hk; unfold does; go_simp; (try go_ints); (first | exact DetR.mk | (simp only [↓IntWalk.iteOmega, Oper.doesUpon_value]; exact DetR.mk) | (simp only [↓IntWalk.iteOmega]; go_simp; (try go_ints); exact DetR.mk))); simp only [Act.put, List.setIfInBounds_toArray, List.set_cons_zero, List.set_cons_succ])
    refine FlowT.last (fun _ w' => ∃ w2, Ext w9 w2 ∧ w' = store2 w2 g (X * 2) (.thing s.things.length)) 14 rfl (by kernel_rfl) (by kernel_rfl) (fun w2 hx hk => ?_) (fun _ w4 hR4 => ?_)
    · have hV : w2.ownsRow n0 50 2 (.slice (some ⟨g, 0, none⟩) s.vars.length cap) s.vars.length (s.vars.flatMap Vl.cells) := (HR9.out.ext hx).vars
      obtain ⟨q0, q1⟩ := own_v hV (at_some HX.out)
      have f0 := own_free hV (X * 2)
      have f1 := own_free hV (X * 2 + 1)
      unfold does
      go_simp
      exact ⟨w2, hx, rfl⟩
    obtain ⟨w2, hx2, rfl⟩ := hR4
    simp only [Act.put]
    have HS : Hid (s.stmt P k x = { s with vars := s.vars.set X (.thing s.things.length), things := s.things ++ [.none], places := s.places ++ [k] }) := hid (by
      unfold Rn.stmt; rw [isK_ne Hkx.out (k' := kAddr) rfl, isK_ne Hkx.out (k' := kCopy) rfl, isK_ne Hkx.out (k' := kLoad) rfl, isK_ne Hkx.out (k' := kStore) rfl, Hkx.out]; simp only [cond_true, cond_false, Rn.set, HXe.out, Int.toNat_natCast])
    have HR10 := hid ((HR9.out.ext hx2).putV X HX.out (.thing s.things.length))
    have HO := hid ((HW9.out.trans (hx2.old n0)).trans (store2_old (y := .thing s.things.length) (i := X * 2) (HR9.out.vlo (b := g) rfl)))
    clear hx2
    go_wp2
    go_end0
    exact ⟨rfl, ⟨_, _, _, by rw [HS.out]; exact HR10.out⟩, HO.out⟩
  · rintro _ _ ⟨_, ⟨at', ct', rfl⟩, _, _⟩
    simp only [List.getElem_toArray, List.getElem_cons_zero, List.getElem_cons_succ, Act.put, List.setIfInBounds_toArray, List.set_cons_zero, List.set_cons_succ]
    refine Flow.one 14 _ rfl (by kernel_rfl) (fun u w' => IntOne k u w' ∧ RnMid w' n0 sb (.slice (some ⟨g, 0, none⟩) s.vars.length cap) (.slice ta s.things.length tc) (.slice pa s.places.length pc) (.slice at' (s.things.length + 1) ct') (.slice pa s.places.length pc) { s with things := s.things ++ [.none] } ∧ n0 ≤ w'.heap.size) (fun _ _ _ h y => ⟨h.1.ext y, h.2.1.ext y, Nat.le_trans h.2.2 y.size⟩) ?_ ?_
    · rintro wa ⟨_, hM, hn⟩ hk
      unfold does
      go_simp
      exact ⟨hk.alloc _, IntOne.mk k wa, hM.ext ((Ext.refl _).alloc _), Nat.le_trans hn ((Ext.refl _).alloc _).size⟩
    rintro _ ⟨_, ⟨b, rfl, _⟩, _, _⟩
    simp only [List.getElem_toArray, List.getElem_cons_zero, List.getElem_cons_succ, Act.put, List.setIfInBounds_toArray, List.set_cons_zero, List.set_cons_succ]
    refine Flow.one 15 _ rfl (by kernel_rfl) (fun u w' => (∃ a c, u = .slice a (s.places.length + 1) c) ∧ RnMid w' n0 sb (.slice (some ⟨g, 0, none⟩) s.vars.length cap) (.slice ta s.things.length tc) (.slice pa s.places.length pc) (.slice at' (s.things.length + 1) ct') u { s with things := s.things ++ [.none], places := s.places ++ [k] }) (fun _ _ _ h y => ⟨h.1, h.2.ext y⟩) ?_ ?_
    · rintro wa ⟨⟨b', eb, hb⟩, hC⟩ hk
      obtain rfl : b = b' := by simpa using eb
      obtain ⟨hM, hn⟩ : RnMid wa n0 sb (.slice (some ⟨g, 0, none⟩) s.vars.length cap) (.slice ta s.things.length tc) (.slice pa s.places.length pc) (.slice at' (s.things.length + 1) ct') (.slice pa s.places.length pc) { s with things := s.things ++ [.none] } ∧ n0 ≤ wa.heap.size := by first | exact hC.2 | exact hC
      refine does_append_el n0 hn 27 3 (.int .i64 0) 1 8 Tryz.underlying27 ints_info rfl (by omega) (by omega) rfl _ _ rfl (.slice pa s.places.length pc) s.places.length (icells s.pl) rfl hM.places b [.int .i64 (k : Int)] rfl (by simp [Value.oneCell']) rfl hb Hsp.out ?_
      intro v' w' ho hk' hl
      exact ⟨hk.trans (hk'.mono fun q _ e => .inr e), row_form ho, hM.place ho hk'⟩
    rintro _ ⟨_, ⟨ap, cp, rfl⟩, _⟩
    simp only [List.getElem_toArray, List.getElem_cons_zero, List.getElem_cons_succ, Act.put, List.setIfInBounds_toArray, List.set_cons_zero, List.set_cons_succ]
    apply Flow.d 16 _ rfl (by simp) (by kernel_rfl)
    · intro w1 hk; unfold does; go_simp; (try go_ints); exact DetR.mk
    simp only [List.getElem_toArray, List.getElem_cons_zero, List.getElem_cons_succ, Act.put, List.setIfInBounds_toArray, List.set_cons_zero, List.set_cons_succ]
    apply Flow.d 17 _ rfl (by simp) (by kernel_rfl)
    · intro w1 hk; unfold does; go_simp; (try go_ints); exact DetR.mk
    simp only [List.getElem_toArray, List.getElem_cons_zero, List.getElem_cons_succ, Act.put, List.setIfInBounds_toArray, List.set_cons_zero, List.set_cons_succ]
    refine Flow.turn1 (fun q => ((Value.slice ta s.things.length tc).ownBlock = some q ∨ (Value.slice pa s.places.length pc).ownBlock = some q) ∨ q = sb) 18 _ rfl (by kernel_rfl) (by kernel_rfl) (fun _ w' => RnMid w' n0 sb (.slice (some ⟨g, 0, none⟩) s.vars.length cap) (.slice at' (s.things.length + 1) ct') (.slice pa s.places.length pc) (.slice at' (s.things.length + 1) ct') (.slice ap (s.places.length + 1) cp) { s with things := s.things ++ [.none], places := s.places ++ [k] }) (fun _ _ _ h y => h.ext y) ?_ ?_
    · rintro wa ⟨_, hM⟩ hk
      have z1 := hM.blk.av 1 rfl
      have f1 := hM.blk.free 1
      have hM2 := hM.sets
      have hk3 : Keep (fun q => ((Value.slice ta s.things.length tc).ownBlock = some q ∨ (Value.slice pa s.places.length pc).ownBlock = some q) ∨ q = sb) W2 (wa.setCell ⟨sb, 1, none⟩ (.slice at' (s.things.length + 1) ct')) := (hk.mono fun _ _ h => .inl h).trans (Keep.set (X := fun q => ((Value.slice ta s.things.length tc).ownBlock = some q ∨ (Value.slice pa s.places.length pc).ownBlock = some q) ∨ q = sb) (Keep.refl _ _) (.inr rfl) _)
      clear hk
      unfold does
      go_simp
      exact ⟨hk3, hM2⟩
    rintro _ ⟨_, _⟩
    simp only [List.getElem_toArray, List.getElem_cons_zero, List.getElem_cons_succ, Act.put, List.setIfInBounds_toArray, List.set_cons_zero, List.set_cons_succ]
    apply Flow.d 19 _ rfl (by simp) (by kernel_rfl)
    · intro w1 hk; unfold does; go_simp; (try go_ints); exact DetR.mk
    simp only [List.getElem_toArray, List.getElem_cons_zero, List.getElem_cons_succ, Act.put, List.setIfInBounds_toArray, List.set_cons_zero, List.set_cons_succ]
    apply Flow.d 20 _ rfl (by simp) (by kernel_rfl)
    · intro w1 hk; unfold does; go_simp; (try go_ints); exact DetR.mk
    simp only [List.getElem_toArray, List.getElem_cons_zero, List.getElem_cons_succ, Act.put, List.setIfInBounds_toArray, List.set_cons_zero, List.set_cons_succ]
    refine Flow.one 21 _ rfl (by kernel_rfl) (fun _ w' => RnMid w' n0 sb (.slice (some ⟨g, 0, none⟩) s.vars.length cap) (.slice at' (s.things.length + 1) ct') (.slice ap (s.places.length + 1) cp) (.slice at' (s.things.length + 1) ct') (.slice ap (s.places.length + 1) cp) { s with things := s.things ++ [.none], places := s.places ++ [k] }) (fun _ _ _ h y => h.ext y) ?_ ?_
    · rintro wa hM hk
      have z1 := hM.blk.av 2 rfl
      have f1 := hM.blk.free 2
      have hM2 := hM.setp
      have hk3 : Keep (fun q => ((Value.slice ta s.things.length tc).ownBlock = some q ∨ (Value.slice pa s.places.length pc).ownBlock = some q) ∨ q = sb) W2 (wa.setCell ⟨sb, 2, none⟩ (.slice ap (s.places.length + 1) cp)) := hk.trans (Keep.set (X := fun q => ((Value.slice ta s.things.length tc).ownBlock = some q ∨ (Value.slice pa s.places.length pc).ownBlock = some q) ∨ q = sb) (Keep.refl _ _) (.inr rfl) _)
      clear hk
      unfold does
      go_simp
      exact ⟨hk3, hM2⟩
    rintro _ ⟨_, _⟩
    simp only [List.getElem_toArray, List.getElem_cons_zero, List.getElem_cons_succ, Act.put, List.setIfInBounds_toArray, List.set_cons_zero, List.set_cons_succ]
    refine Flow.fin (by kernel_rfl) fun w9 hM9 hk9 => ?_
    have HR9 := hid hM9.at
    have HB9 := hid (HB2.out.keep hk9 HNb2.out)
    have HW9 := hid ((HW2.out.old n0).trans (hk9.mono HYo.out))
    have d0 := HR9.out.blk.kc (X := fun _ => False) (fun e => e) 0 rfl
    have d1 := HR9.out.blk.kc (X := fun _ => False) (fun e => e) 1 rfl
    have m1' := HB9.out.kc (X := fun _ => False) (fun e => e) 1 rfl
    simp only [scells, List.getElem_toArray, List.getElem_cons_zero, List.getElem_cons_succ] at d0 d1 m1'
    rw [HXe.out] at m1'
    clear hM9 hk9 m1 e1 e2
    go_wp2
    refine wp_flowT (fun _ => False) (by kernel_rfl) (by kernel_rfl) ?_
    repeat (apply FlowT.d; (intro w1 hk; unfold does; go_simp; (try go_ints); (first | exact DetR.mk | (simp only [↓IntWalk.iteOmega, Oper.doesUpon_value]; exact DetR.mk) | (simp only [↓IntWalk.iteOmega]; go_simp; (try go_ints); exact DetR.mk))); simp only [Act.put, List.setIfInBounds_toArray, List.set_cons_zero, List.set_cons_succ])
    refine FlowT.last (fun _ w' => ∃ w2, Ext w9 w2 ∧ w' = store2 w2 g (X * 2) (.thing s.things.length)) 14 rfl (by kernel_rfl) (by kernel_rfl) (fun w2 hx hk => ?_) (fun _ w4 hR4 => ?_)
    · have hV : w2.ownsRow n0 50 2 (.slice (some ⟨g, 0, none⟩) s.vars.length cap) s.vars.length (s.vars.flatMap Vl.cells) := (HR9.out.ext hx).vars
      obtain ⟨q0, q1⟩ := own_v hV (at_some HX.out)
      have f0 := own_free hV (X * 2)
      have f1 := own_free hV (X * 2 + 1)
      unfold does
      go_simp
      exact ⟨w2, hx, rfl⟩
    obtain ⟨w2, hx2, rfl⟩ := hR4
    simp only [Act.put]
    have HS : Hid (s.stmt P k x = { s with vars := s.vars.set X (.thing s.things.length), things := s.things ++ [.none], places := s.places ++ [k] }) := hid (by
      unfold Rn.stmt; rw [isK_ne Hkx.out (k' := kAddr) rfl, isK_ne Hkx.out (k' := kCopy) rfl, isK_ne Hkx.out (k' := kLoad) rfl, isK_ne Hkx.out (k' := kStore) rfl, Hkx.out]; simp only [cond_true, cond_false, Rn.set, HXe.out, Int.toNat_natCast])
    have HR10 := hid ((HR9.out.ext hx2).putV X HX.out (.thing s.things.length))
    have HO := hid ((HW9.out.trans (hx2.old n0)).trans (store2_old (y := .thing s.things.length) (i := X * 2) (HR9.out.vlo (b := g) rfl)))
    clear hx2
    go_wp2
    go_end0
    exact ⟨rfl, ⟨_, _, _, by rw [HS.out]; exact HR10.out⟩, HO.out⟩
end Go.Proofs.YtkabgmohgjljkaaGreatDoor


/- Runs: what any statement does. -/
namespace Go.Proofs.YtkabgmohgjljkaaGreatDoor
set_option linter.unusedSimpArgs false
set_option linter.unusedVariables false
open Go Go.RowKit

theorem stcall_any (a1 a2 a3 : Option Addr) (c1 c2 c3 : Nat) (P : PP) (x : PS) (av : Option Addr) (cv : Nat) (hg : P.Good x) (hkx : x.isK kCall = true) (hF : ∀ f ∈ P.funs, P.GoodF f) (s : Rn) (hs : s.Ok P) (w : World) (n0 sb : Nat) (vv tv pv : Value) (hR : RnAt w n0 sb vv tv pv s) (hP : ProgR w n0 (.slice a1 P.vars.length c1) (.slice a2 P.funs.length c2) (.slice a3 P.stmts.length c3) P) (hI : IntsR w n0 (.slice av x.args.length cv) x.args) (hn0 : n0 ≤ w.heap.size) :
    Calls Tryz.prog 41 #[.pointer (some ⟨sb, 0, none⟩), pval a1 a2 a3 c1 c2 c3 P, .agg #[.string x.kind, .int .i64 x.x, .int .i64 x.y, .slice av x.args.length cv]] w fun e w' => e = .returned (.tuple #[]) ∧ (∃ vv' tv' pv', RnAt w' n0 sb vv' tv' pv' (s.call P x)) ∧ Old n0 w w' := by
  cases hv : s.at x.y with
  | fn n =>
    have hn : n < P.funs.length := by have := hs.at x.y; rw [hv] at this; exact this
    have hf : P.funs[n]? = some (P.funs[n]'hn) := List.getElem?_eq_getElem hn
    by_cases hl : (P.funs[n]'hn).params.length = x.args.length
    · have h := stcall_yes a1 a2 a3 c1 c2 c3 P x av cv hg hkx hF s hs w n0 sb vv tv pv hR hP hI hn0 n _ hv hf hl
      have e : s.call P x = s.callF x (P.funs[n]'hn) := by unfold Rn.call; rw [hv]; simp only [hf]
      rw [e]; exact h
    · have h := stcall_far a1 a2 a3 c1 c2 c3 P x av cv hg hkx hF s hs w n0 sb vv tv pv hR hP hI hn0 n hv (fun f h => by rw [hf] at h; obtain rfl := Option.some.inj h; exact hl)
      have e : s.call P x = s := by unfold Rn.call; rw [hv]; simp only [hf, Rn.callF, if_neg hl]
      rw [e]; exact h
  | none =>
    have e : s.call P x = s := by unfold Rn.call; rw [hv]
    rw [e]; exact stcall_no a1 a2 a3 c1 c2 c3 P x av cv hg hkx hF s hs w n0 sb vv tv pv hR hP hI hn0 (fun n h => by rw [hv] at h; cases h)
  | var m =>
    have e : s.call P x = s := by unfold Rn.call; rw [hv]
    rw [e]; exact stcall_no a1 a2 a3 c1 c2 c3 P x av cv hg hkx hF s hs w n0 sb vv tv pv hR hP hI hn0 (fun n h => by rw [hv] at h; cases h)
  | thing m =>
    have e : s.call P x = s := by unfold Rn.call; rw [hv]
    rw [e]; exact stcall_no a1 a2 a3 c1 c2 c3 P x av cv hg hkx hF s hs w n0 sb vv tv pv hR hP hI hn0 (fun n h => by rw [hv] at h; cases h)

set_option maxRecDepth 100000 in
set_option maxHeartbeats 12800000 in
theorem stdo_call (a1 a2 a3 : Option Addr) (c1 c2 c3 : Nat) (P : PP) (k : Nat) (x : PS) (hxk : P.stmts[k]? = some x) (hg : P.Good x) (hkx : x.isK kCall = true) (hF : ∀ f ∈ P.funs, P.GoodF f) (s : Rn) (hs : s.Ok P) (w : World) (n0 sb : Nat) (vv tv pv : Value) (hR : RnAt w n0 sb vv tv pv s) (hP : ProgR w n0 (.slice a1 P.vars.length c1) (.slice a2 P.funs.length c2) (.slice a3 P.stmts.length c3) P) (hn0 : n0 ≤ w.heap.size) (hsm : s.things.length ≤ 100000) :
    Calls Tryz.prog 21 #[.pointer (some ⟨sb, 0, none⟩), pval a1 a2 a3 c1 c2 c3 P, .int .i64 (k : Int)] w fun e w' => e = .returned (.tuple #[]) ∧ (∃ vv' tv' pv', RnAt w' n0 sb vv' tv' pv' (s.stmt P k x)) ∧ Old n0 w w' := by
  have hk : k < P.stmts.length := by
    rcases Nat.lt_or_ge k P.stmts.length with h | h
    · exact h
    · rw [List.getElem?_eq_none h] at hxk; cases hxk
  have hml := hP.stmts.len
  obtain ⟨W1, hW1⟩ : ∃ W1, W1 = w.alloc (.cells (pcells a1 a2 a3 c1 c2 c3 P) 26) := ⟨_, rfl⟩
  have hx1 : Ext w W1 := by rw [hW1]; exact (Ext.refl _).alloc _
  obtain ⟨y, x', av, cv, rfl, hxk', e0, e1, e2, e3, hI⟩ := (hP.ext hx1).stmts.at hk
  obtain rfl := Option.some.inj (hxk.symm.trans hxk')
  obtain ⟨W2, hW2⟩ : ∃ W2, W2 = W1.alloc (.cells (scells x av cv) 58) := ⟨_, rfl⟩
  have hx2 : Ext W1 W2 := by rw [hW2]; exact (Ext.refl _).alloc _
  have HW2 := hid (hx1.trans hx2)
  have HB1 : Hid (Blk W2 w.heap.size (pcells a1 a2 (some y) c1 c2 c3 P) 26) := hid (by
    have : Blk W1 w.heap.size (pcells a1 a2 (some y) c1 c2 c3 P) 26 := by rw [hW1]; exact Blk.new _ _ _
    exact this.ext hx2)
  have hs1 : W1.heap.size = w.heap.size + 1 := by rw [hW1, heap_size_alloc]
  have HB2 : Hid (Blk W2 (w.heap.size + 1) (scells x av cv) 58) := hid (by
    rw [← hs1, hW2]; exact Blk.new _ _ _)
  have HR2 := hid (hR.ext HW2.out)
  have HP2 := hid (hP.ext HW2.out)
  have HI := hid (hI.old (hx2.old n0))
  have Hs := hid hs
  have Hg := hid hg
  have Hn0 := hid hn0
  have hgx := hg.gx
  rw [hW1] at e0 e1 e2 e3
  have HW2e : Hid (W2 = (w.alloc (.cells #[.slice a1 P.vars.length c1, .slice a2 P.funs.length c2, .slice (some y) P.stmts.length c3] 26)).alloc (.cells #[.string x.kind, .int .i64 x.x, .int .i64 x.y, .slice av x.args.length cv] 58)) := hid (by rw [hW2, hW1]; rfl)
  unfold pcells at e0 e1 e2 e3
  obtain ⟨X, hX⟩ := Int.eq_ofNat_of_zero_le hgx.1
  have HX : Hid (X < s.vars.length) := hid (by rw [hs.lv]; omega)
  have HXe := hid hX
  have hXl := HX.out
  obtain ⟨g, cap, hvv⟩ := own_some hR.vars (by have := HX.out; omega)
  subst hvv
  have hnv : s.vars.length = P.vars.length := hs.lv
  have d0 := HR2.out.blk.kc (X := fun _ => False) (fun e => e) 0 rfl
  have d1 := HR2.out.blk.kc (X := fun _ => False) (fun e => e) 1 rfl
  have d2 := HR2.out.blk.kc (X := fun _ => False) (fun e => e) 2 rfl
  have m1 := HB2.out.kc (X := fun _ => False) (fun e => e) 1 rfl
  have m2 := HB2.out.kc (X := fun _ => False) (fun e => e) 2 rfl
  have m3 := HB2.out.kc (X := fun _ => False) (fun e => e) 3 rfl
  simp only [scells, List.getElem_toArray, List.getElem_cons_zero, List.getElem_cons_succ] at d0 d1 d2 m1 m2 m3
  rw [hX] at m1
  have hsbl := hR.blk.lt
  have Hkx := hid hkx
  have hkk := hkx
  unfold PS.isK kCall at hkk
  clear hxk hxk' hW1 hW2 hx1 hx2 hs1 hR hP hI hs hg hX hgx hkx hn0
  unfold pval
  have h1 : (x.kind.toList == [97, 100, 100, 114]) = false := isK_ne Hkx.out (k' := kAddr) rfl
  have h2 : (x.kind.toList == [99, 111, 112, 121]) = false := isK_ne Hkx.out (k' := kCopy) rfl
  have h3 : (x.kind.toList == [108, 111, 97, 100]) = false := isK_ne Hkx.out (k' := kLoad) rfl
  have h4 : (x.kind.toList == [115, 116, 111, 114, 101]) = false := isK_ne Hkx.out (k' := kStore) rfl
  have h5 : (x.kind.toList == [110, 101, 119]) = false := isK_ne Hkx.out (k' := kNew) rfl
  have h6 : (x.kind.toList == [102, 117, 110]) = false := isK_ne Hkx.out (k' := kFun) rfl
  have HC := hid (stcall_any a1 a2 (some y) c1 c2 c3 P x av cv Hg.out Hkx.out hF s Hs.out W2 n0 sb _ _ _ HR2.out HP2.out HI.out (Nat.le_trans Hn0.out HW2.out.size))
  have HS : Hid (s.stmt P k x = s.call P x) := hid (by
    unfold Rn.stmt; rw [isK_ne Hkx.out (k' := kAddr) rfl, isK_ne Hkx.out (k' := kCopy) rfl, isK_ne Hkx.out (k' := kLoad) rfl, isK_ne Hkx.out (k' := kStore) rfl, isK_ne Hkx.out (k' := kNew) rfl, isK_ne Hkx.out (k' := kFun) rfl, Hkx.out]; simp only [cond_true, cond_false])
  unfold pval at HC
  clear d0 d1 d2 m1 m2 m3 hnv hF
  go_enter Tryz.func21, Tryz.ntmps21
  go_wp2_with fail
  rw [← HW2e.out]
  refine HC.out.mono ?_
  intro e w3 hx
  obtain ⟨rfl, hR3, hO3⟩ := hx
  have HR3 := hid hR3
  have HO3 := hid hO3
  clear hR3 hO3 HC
  go_wp2
  go_end0
  exact ⟨rfl, by rw [HS.out]; exact HR3.out, (HW2.out.old n0).trans HO3.out⟩

theorem isK_of {x : PS} {b : ByteArray} {k : List UInt8} (hb : b.toList = k) (h : eqB x.kind b = true) : x.isK k = true := by
  unfold eqB at h
  rw [hb] at h
  exact h
theorem kind_cases {P : PP} {x : PS} (h : P.stmtErr x = 0) : x.isK kAddr = true ∨ x.isK kCopy = true ∨ x.isK kLoad = true ∨ x.isK kStore = true ∨ x.isK kNew = true ∨ x.isK kFun = true ∨ x.isK kCall = true := by
  unfold PP.stmtErr at h
  cases hm : memB x.kind kindsS with
  | false => rw [hm] at h; simp at h
  | true =>
    simp only [memB, kindsS, List.any_cons, List.any_nil, Bool.or_false, Bool.or_eq_true] at hm
    refine hm.imp (fun h => ?_) (Or.imp (fun h => ?_) (Or.imp (fun h => ?_) (Or.imp (fun h => ?_) (Or.imp (fun h => ?_) (Or.imp (fun h => ?_) (fun h => ?_))))))
    · exact isK_of (k := kAddr) (by decide +kernel) h
    · exact isK_of (k := kCopy) (by decide +kernel) h
    · exact isK_of (k := kLoad) (by decide +kernel) h
    · exact isK_of (k := kStore) (by decide +kernel) h
    · exact isK_of (k := kNew) (by decide +kernel) h
    · exact isK_of (k := kFun) (by decide +kernel) h
    · exact isK_of (k := kCall) (by decide +kernel) h
/-- What any statement does. -/
theorem stdo_any (a1 a2 a3 : Option Addr) (c1 c2 c3 : Nat) (P : PP) (k : Nat) (x : PS) (hxk : P.stmts[k]? = some x) (hx0 : P.stmtErr x = 0) (hF : ∀ f ∈ P.funs, P.GoodF f) (s : Rn) (hs : s.Ok P) (w : World) (n0 sb : Nat) (vv tv pv : Value) (hR : RnAt w n0 sb vv tv pv s) (hP : ProgR w n0 (.slice a1 P.vars.length c1) (.slice a2 P.funs.length c2) (.slice a3 P.stmts.length c3) P) (hn0 : n0 ≤ w.heap.size) (hsm : s.things.length ≤ 100000) :
    Calls Tryz.prog 21 #[.pointer (some ⟨sb, 0, none⟩), pval a1 a2 a3 c1 c2 c3 P, .int .i64 (k : Int)] w fun e w' => e = .returned (.tuple #[]) ∧ (∃ vv' tv' pv', RnAt w' n0 sb vv' tv' pv' (s.stmt P k x)) ∧ Old n0 w w' := by
  have hg := PP.good hx0
  rcases kind_cases hx0 with h | h | h | h | h | h | h
  · exact stdo_addr a1 a2 a3 c1 c2 c3 P k x hxk hg h s hs w n0 sb vv tv pv hR hP hn0 hsm
  · exact stdo_copy a1 a2 a3 c1 c2 c3 P k x hxk hg h s hs w n0 sb vv tv pv hR hP hn0 hsm
  · exact stdo_load a1 a2 a3 c1 c2 c3 P k x hxk hg h s hs w n0 sb vv tv pv hR hP hn0 hsm
  · exact stdo_store a1 a2 a3 c1 c2 c3 P k x hxk hg h s hs w n0 sb vv tv pv hR hP hn0 hsm
  · exact stdo_new a1 a2 a3 c1 c2 c3 P k x hxk hg h s hs w n0 sb vv tv pv hR hP hn0 hsm
  · exact stdo_fun a1 a2 a3 c1 c2 c3 P k x hxk hg h s hs w n0 sb vv tv pv hR hP hn0 hsm
  · exact stdo_call a1 a2 a3 c1 c2 c3 P k x hxk hg h hF s hs w n0 sb vv tv pv hR hP hn0 hsm
end Go.Proofs.YtkabgmohgjljkaaGreatDoor


/- Runs: run.Do: programs that are none, scripts that are none. -/
namespace Go.Proofs.YtkabgmohgjljkaaGreatDoor
set_option linter.unusedSimpArgs false
set_option linter.unusedVariables false
open Go Go.RowKit

def PP.badk (P : PP) (n : Int) : Bool := decide (n < 0) || decide ((P.stmts.length : Int) ≤ n)
set_option maxRecDepth 100000 in
set_option maxHeartbeats 800000 in
theorem rundoc_any (g : Nat) (a1 a2 a3 : Option Addr) (c1 c2 c3 : Nat) (P : PP) (n : Int) (w : World) (h : Blk w g (pcells a1 a2 a3 c1 c2 c3 P) 26) :
    Calls Tryz.prog 19 #[.int .i64 n, .pointer (some ⟨g, 0, none⟩)] w fun e w' => e = .returned (.bool (P.badk n)) ∧ Ext w w' := by
  have h2 := h.av 2 rfl
  have Hr := hid (show P.badk n = (decide (n < 0) || decide ((P.stmts.length : Int) ≤ n)) from rfl)
  generalize hm : P.stmts.length = m at *
  simp only [pcells, hm, List.getElem_toArray, List.getElem_cons_zero, List.getElem_cons_succ] at h2
  clear h hm
  go_enter Tryz.func19, Tryz.ntmps19
  by_cases hn : n < 0
  · go_wp2
    go_ret
    exact ⟨by rw [Hr.out, decide_eq_true hn]; rfl, Ext.refl _⟩
  · have Hn := hid hn
    by_cases hn2 : (m : Int) ≤ n
    · have Hn2 := hid hn2
      go_wp2
      go_ret
      exact ⟨by rw [Hr.out, decide_eq_false (show ¬ n < 0 by have := Hn.out; omega), decide_eq_true (show (m : Int) ≤ n by have := Hn2.out; omega)]; rfl, Ext.refl _⟩
    · have Hn2 := hid hn2
      go_wp2
      go_ret
      exact ⟨by rw [Hr.out, decide_eq_false (show ¬ n < 0 by have := Hn.out; omega), decide_eq_false (show ¬ (m : Int) ≤ n by have := Hn2.out; omega)]; rfl, Ext.refl _⟩

def zeroS : Value := .agg #[.slice none 0 0, .slice none 0 0, .slice none 0 0]
def zcells : Array Value := #[.slice none 0 0, .slice none 0 0, .slice none 0 0]
theorem ErrIs.keep {X : Nat → Prop} {ad : Nat → Addr} {P : PP} {w w' : World} {v : Value} (h : ErrIs ad P w v) (k : Keep X w w') (hX : ∀ i, X i → ∃ c, Blk w i c 33) : ErrIs ad P w' v := by
  rcases h with h | h | ⟨h1, i, s, b, h2, h3, h4⟩
  · exact .inl h
  · exact .inr (.inl h)
  · refine .inr (.inr ⟨h1, i, s, b, h2, h3, h4.keep k fun e => ?_⟩)
    obtain ⟨c, hc⟩ := hX b e
    exact Blk.ty_ne h4 hc (by decide) rfl
theorem ErrIs.form {ad : Nat → Addr} {P : PP} {w : World} {v : Value} (h : ErrIs ad P w v) : (v = .nilIface ∧ P.err1 = 0 ∧ P.allWell) ∨ ((∃ t x, v = .iface t (.pointer (some x))) ∧ ¬ (P.err1 = 0 ∧ P.allWell)) := by
  rcases h with ⟨h1, h2⟩ | ⟨h1, h2, h3⟩ | ⟨h1, i, s, b, h2, h3, _⟩
  · refine .inr ⟨?_, fun h => h1 h.1⟩
    obtain ⟨x, hx⟩ : ∃ x, evOf ad P.err1 = .iface 152 (.pointer (some x)) := ⟨_, rfl⟩
    exact ⟨_, _, by rw [h2, hx]⟩
  · exact .inl ⟨h3, h1, h2⟩
  · refine .inr ⟨⟨_, _, h3⟩, fun h => h2.2.1 (h.2 i s ?_ h2.1)⟩
    rcases Nat.lt_or_ge i P.stmts.length with h | h
    · exact h
    · have h3 := h2.1; rw [List.getElem?_eq_none h] at h3; cases h3
/-- The script's first number that names no statement. -/
def PP.FirstK (P : PP) (l : List Int) (i : Nat) : Prop := ∃ x, l[i]? = some x ∧ P.badk x = true ∧ ∀ j y, j < i → l[j]? = some y → P.badk y = false
/-- What a run tells that is refused. -/
def RunNo (ad : Nat → Addr) (P : PP) (l : List Int) (w : World) (v : Value) : Prop :=
  (¬ (P.err1 = 0 ∧ P.allWell) ∧ ErrIs ad P w v) ∨ (P.err1 = 0 ∧ P.allWell ∧ 2000 < l.length ∧ v = evOf ad 8) ∨
  (P.err1 = 0 ∧ P.allWell ∧ l.length ≤ 2000 ∧ ∃ i b, P.FirstK l i ∧ v = .iface 64 (.pointer (some ⟨b, 0, none⟩)) ∧ Blk w b #[.int .i64 (i : Int), evOf ad 2] 66)
/-- A script that may be done. -/
def PP.Runs (P : PP) (l : List Int) : Prop := P.err1 = 0 ∧ P.allWell ∧ l.length ≤ 2000 ∧ ∀ x ∈ l, P.badk x = false

theorem store3_keep (w : World) (g : Nat) (v0 v1 v2 : Value) : Keep (fun b => b = g) w (((w.setCell ⟨g, 0, none⟩ v0).setCell ⟨g, 1, none⟩ v1).setCell ⟨g, 2, none⟩ v2) :=
  have k : ∀ (u : World) j v, Keep (fun b => b = g) w u → Keep (fun b => b = g) w (u.setCell ⟨g, j, none⟩ v) := fun _ _ v h => h.set rfl v
  k _ _ _ (k _ _ _ (k _ _ _ (Keep.refl _ w)))
theorem store3 {w : World} {g : Nat} {x0 x1 x2 v0 v1 v2 : Value} {t : TypeId} (h : Blk w g #[x0, x1, x2] t) : Blk (((w.setCell ⟨g, 0, none⟩ v0).setCell ⟨g, 1, none⟩ v1).setCell ⟨g, 2, none⟩ v2) g #[v0, v1, v2] t := by
  have := ((h.set 0 v0).set 1 v1).set 2 v2
  simpa using this
set_option maxRecDepth 100000 in
set_option maxHeartbeats 6400000 in
theorem rundo_bad (a1 a2 a3 : Option Addr) (c1 c2 c3 : Nat) (P : PP) (va : Value) (l : List Int) (w : World) (ad : Nat → Addr) (hE : ErrsP w ad) (hP : ProgR w w.heap.size (.slice a1 P.vars.length c1) (.slice a2 P.funs.length c2) (.slice a3 P.stmts.length c3) P) (hI : IntsR w w.heap.size va l)
    (hz1 : ∀ s ∈ P.vars, s.size ≤ 1000000) (hz2 : ∀ s ∈ P.names, s.size ≤ 1000000) (hno : ¬ (P.err1 = 0 ∧ P.allWell)) :
    Calls Tryz.prog 7 #[pval a1 a2 a3 c1 c2 c3 P, va] w fun e w' => Ext w w' ∧ ∃ v, e = .returned (.tuple #[zeroS, v]) ∧ RunNo ad P l w' v := by
  have HE := hid hE
  have HP := hid hP
  have hpl : (P.vars.length : Int) ≤ 9223372036854775807 := by
    obtain ⟨_, _, _, h2, h3, _⟩ := hP.vars
    omega
  have HI := hid hI
  have hll : (l.length : Int) ≤ 9223372036854775807 := by
    obtain ⟨_, _, _, h2, h3, _⟩ := hI
    omega
  obtain ⟨W1, hW1⟩ : ∃ W1, W1 = w.alloc (.cells (pcells a1 a2 a3 c1 c2 c3 P) 26) := ⟨_, rfl⟩
  have hx1 : Ext w W1 := by rw [hW1]; exact (Ext.refl _).alloc _
  obtain ⟨W2, hW2⟩ : ∃ W2, W2 = W1.alloc (.cells zcells 33) := ⟨_, rfl⟩
  have hx2 : Ext W1 W2 := by rw [hW2]; exact (Ext.refl _).alloc _
  have HW2 := hid (hx1.trans hx2)
  have HB1 : Hid (Blk W2 w.heap.size (pcells a1 a2 a3 c1 c2 c3 P) 26) := hid (by
    have : Blk W1 w.heap.size (pcells a1 a2 a3 c1 c2 c3 P) 26 := by rw [hW1]; exact Blk.new _ _ _
    exact this.ext hx2)
  have hs1 : W1.heap.size = w.heap.size + 1 := by rw [hW1, heap_size_alloc]
  have HB2 : Hid (Blk W2 (w.heap.size + 1) zcells 33) := hid (by
    rw [← hs1, hW2]; exact Blk.new _ _ _)
  have HC := hid (pcheck_any a1 a2 a3 c1 c2 c3 P W2 w.heap.size ad (hE.ext HW2.out) (hP.ext HW2.out) hz1 hz2 hpl)
  have HW2e : Hid (W2 = (w.alloc (.cells #[.slice a1 P.vars.length c1, .slice a2 P.funs.length c2, .slice a3 P.stmts.length c3] 26)).alloc (.cells #[.slice none 0 0, .slice none 0 0, .slice none 0 0] 33)) := hid (by rw [hW2, hW1]; rfl)
  obtain ⟨aa, ca, hva⟩ : ∃ aa ca, va = .slice aa l.length ca := by
    obtain ⟨aa, ca, h, _⟩ := hI
    exact ⟨aa, ca, h⟩
  subst hva
  unfold pval at HC ⊢
  clear hE hP hI hW1 hW2 hx1 hx2 hs1 hz1 hz2
  go_enter Tryz.func7, Tryz.ntmps7
  go_wp2_with fail
  rw [← HW2e.out]
  refine HC.out.mono ?_
  intro e w3 hx
  obtain ⟨v, rfl, hE3, hx3⟩ := hx
  have HB3 := hid (HB2.out.ext hx3)
  have HBp := hid (HB1.out.ext hx3)
  have HW3 := hid (HW2.out.trans hx3)
  have HE3 := hid hE3
  clear HC hE3 hx3
  have Hno := hid hno
  rcases HE3.out.form with ⟨_, h⟩ | ⟨⟨t, y, rfl⟩, _⟩
  · exact absurd h hno
  clear hno
  have z0 := (HB3.out).av 0 rfl
  have z1 := (HB3.out).av 1 rfl
  have z2 := (HB3.out).av 2 rfl
  have f0 := (HB3.out).free 0
  have f1 := (HB3.out).free 1
  have f2 := (HB3.out).free 2
  have HBz := hid (store3 (v0 := .slice none 0 0) (v1 := .slice none 0 0) (v2 := .slice none 0 0) HB3.out)
  have HKz := hid (store3_keep w3 (w.heap.size + 1) (.slice none 0 0) (.slice none 0 0) (.slice none 0 0))
  simp only [zcells, List.setIfInBounds_toArray, List.set_cons_zero, List.set_cons_succ, List.getElem_toArray, List.getElem_cons_zero, List.getElem_cons_succ] at z0 z1 z2
  go_wp2
  have c0 := HBz.out.av 0 rfl
  have c1 := HBz.out.av 1 rfl
  have c2 := HBz.out.av 2 rfl
  have hx := Keep.new HW3.out HKz.out fun b hb => by omega
  have hR : RunNo ad P l _ (.iface t (.pointer (some y))) := .inl ⟨Hno.out, HE3.out.keep HKz.out fun i e => by subst e; exact ⟨_, HB3.out⟩⟩
  generalize (((w3.setCell ⟨w.heap.size + 1, 0, none⟩ (.slice none 0 0)).setCell ⟨w.heap.size + 1, 1, none⟩ (.slice none 0 0)).setCell ⟨w.heap.size + 1, 2, none⟩ (.slice none 0 0)) = W9 at *
  exact bodyPost_ret (v := .tuple #[zeroS, .iface t (.pointer (some y))]) (by simp [results, Tryz.results7, go_sem, c0, c1, c2]; rfl) rfl ⟨hx, _, rfl, hR⟩

set_option maxRecDepth 100000 in
set_option maxHeartbeats 6400000 in
theorem rundo_full (a1 a2 a3 : Option Addr) (c1 c2 c3 : Nat) (P : PP) (va : Value) (l : List Int) (w : World) (ad : Nat → Addr) (hE : ErrsP w ad) (hP : ProgR w w.heap.size (.slice a1 P.vars.length c1) (.slice a2 P.funs.length c2) (.slice a3 P.stmts.length c3) P) (hI : IntsR w w.heap.size va l)
    (hz1 : ∀ s ∈ P.vars, s.size ≤ 1000000) (hz2 : ∀ s ∈ P.names, s.size ≤ 1000000) (hok : P.err1 = 0 ∧ P.allWell) (hlen : 2000 < l.length) :
    Calls Tryz.prog 7 #[pval a1 a2 a3 c1 c2 c3 P, va] w fun e w' => Ext w w' ∧ ∃ v, e = .returned (.tuple #[zeroS, v]) ∧ RunNo ad P l w' v := by
  have HE := hid hE
  have HP := hid hP
  have hpl : (P.vars.length : Int) ≤ 9223372036854775807 := by
    obtain ⟨_, _, _, h2, h3, _⟩ := hP.vars
    omega
  have HI := hid hI
  have hll : (l.length : Int) ≤ 9223372036854775807 := by
    obtain ⟨_, _, _, h2, h3, _⟩ := hI
    omega
  obtain ⟨W1, hW1⟩ : ∃ W1, W1 = w.alloc (.cells (pcells a1 a2 a3 c1 c2 c3 P) 26) := ⟨_, rfl⟩
  have hx1 : Ext w W1 := by rw [hW1]; exact (Ext.refl _).alloc _
  obtain ⟨W2, hW2⟩ : ∃ W2, W2 = W1.alloc (.cells zcells 33) := ⟨_, rfl⟩
  have hx2 : Ext W1 W2 := by rw [hW2]; exact (Ext.refl _).alloc _
  have HW2 := hid (hx1.trans hx2)
  have HB1 : Hid (Blk W2 w.heap.size (pcells a1 a2 a3 c1 c2 c3 P) 26) := hid (by
    have : Blk W1 w.heap.size (pcells a1 a2 a3 c1 c2 c3 P) 26 := by rw [hW1]; exact Blk.new _ _ _
    exact this.ext hx2)
  have hs1 : W1.heap.size = w.heap.size + 1 := by rw [hW1, heap_size_alloc]
  have HB2 : Hid (Blk W2 (w.heap.size + 1) zcells 33) := hid (by
    rw [← hs1, hW2]; exact Blk.new _ _ _)
  have HC := hid (pcheck_any a1 a2 a3 c1 c2 c3 P W2 w.heap.size ad (hE.ext HW2.out) (hP.ext HW2.out) hz1 hz2 hpl)
  have HW2e : Hid (W2 = (w.alloc (.cells #[.slice a1 P.vars.length c1, .slice a2 P.funs.length c2, .slice a3 P.stmts.length c3] 26)).alloc (.cells #[.slice none 0 0, .slice none 0 0, .slice none 0 0] 33)) := hid (by rw [hW2, hW1]; rfl)
  obtain ⟨aa, ca, hva⟩ : ∃ aa ca, va = .slice aa l.length ca := by
    obtain ⟨aa, ca, h, _⟩ := hI
    exact ⟨aa, ca, h⟩
  subst hva
  unfold pval at HC ⊢
  clear hE hP hI hW1 hW2 hx1 hx2 hs1 hz1 hz2
  go_enter Tryz.func7, Tryz.ntmps7
  go_wp2_with fail
  rw [← HW2e.out]
  refine HC.out.mono ?_
  intro e w3 hx
  obtain ⟨v, rfl, hE3, hx3⟩ := hx
  have HB3 := hid (HB2.out.ext hx3)
  have HBp := hid (HB1.out.ext hx3)
  have HW3 := hid (HW2.out.trans hx3)
  have HE3 := hid hE3
  clear HC hE3 hx3
  have Hok := hid hok
  obtain rfl : v = .nilIface := by
    rcases HE3.out.form with ⟨h, _⟩ | ⟨_, h⟩
    · exact h
    · exact absurd hok h
  clear hok
  have HR : Hid (∀ w', RunNo ad P l w' (evOf ad 8)) := hid fun _ => .inr (.inl ⟨Hok.out.1, Hok.out.2, hlen, rfl⟩)
  have gz : ∀ w1, Keep (fun b => b = w.heap.size + 1) w3 w1 → w1.cell? ⟨0, 0, none⟩ = some (evOf ad 8) := fun w1 hk => hk.cellx (HW3.out.cellx HE.out.at8) (fun e => by have := cell_lt HE.out.at8; simp only at e this; omega)
  go_wp2
  refine wp_flowT (fun b => b = w.heap.size + 1) (by kernel_rfl) (by kernel_rfl) ?_
  repeat (apply FlowT.d; (intro w1 hk; unfold does; go_simp; (try go_ints); (first | exact DetR.mk | (simp only [↓IntWalk.iteOmega, Oper.doesUpon_value]; exact DetR.mk) | (simp only [↓IntWalk.iteOmega]; go_simp; (try go_ints); exact DetR.mk))); simp only [Act.put, List.setIfInBounds_toArray, List.set_cons_zero, List.set_cons_succ])
  refine FlowT.v undef (fun w' => Blk w' (w.heap.size + 1) zcells 33 ∧ Keep (fun b => b = w.heap.size + 1) w3 w') 2 rfl (by kernel_rfl) (fun w1 w2 h x => ⟨h.1.ext x, h.2.ext_r x⟩) (fun wa hx hk => ?_) ?_
  · have z0 := ((HB3.out.ext hx)).av 0 rfl
    have z1 := ((HB3.out.ext hx)).av 1 rfl
    have z2 := ((HB3.out.ext hx)).av 2 rfl
    have f0 := ((HB3.out.ext hx)).free 0
    have f1 := ((HB3.out.ext hx)).free 1
    have f2 := ((HB3.out.ext hx)).free 2
    have HBz := hid (store3 (v0 := .slice none 0 0) (v1 := .slice none 0 0) (v2 := .slice none 0 0) (HB3.out.ext hx))
    have HKz := hid (store3_keep wa (w.heap.size + 1) (.slice none 0 0) (.slice none 0 0) (.slice none 0 0))
    simp only [zcells, List.setIfInBounds_toArray, List.set_cons_zero, List.set_cons_succ, List.getElem_toArray, List.getElem_cons_zero, List.getElem_cons_succ] at z0 z1 z2
    have hk2 := hk.trans HKz.out
    clear hk
    unfold does
    go_simp
    exact ⟨hk2, rfl, HBz.out, hk2⟩
  repeat (apply FlowT.d; (intro w1 hk; unfold does; go_simp; (try go_ints); (first | exact DetR.mk | (simp only [↓IntWalk.iteOmega, Oper.doesUpon_value]; exact DetR.mk) | (simp only [↓IntWalk.iteOmega]; go_simp; (try go_ints); exact DetR.mk))); simp only [Act.put, List.setIfInBounds_toArray, List.set_cons_zero, List.set_cons_succ])
  refine FlowT.fin fun wb hC hk => ?_
  obtain ⟨hB, hK⟩ := hC
  have c0 := hB.av 0 rfl
  have c1 := hB.av 1 rfl
  have c2 := hB.av 2 rfl
  simp only [zcells, List.getElem_toArray, List.getElem_cons_zero, List.getElem_cons_succ] at c0 c1 c2
  have hE := hid (Keep.new HW3.out hK (fun n hn => by omega))
  clear hk hK hB
  go_wp2
  exact bodyPost_ret (v := .tuple #[zeroS, evOf ad 8]) (by simp [results, Tryz.results7, go_sem, c0, c1, c2]; rfl) rfl ⟨hE.out, _, rfl, HR.out _⟩

/-- The state's block is as it was, and nothing else was written. -/
def SZ (n : Nat) (w w' : World) : Prop := Blk w' (n + 1) zcells 33 ∧ Keep (fun b => b = n + 1) w w'
theorem SZ.ext {n : Nat} {w w1 w2 : World} (h : SZ n w w1) (x : Ext w1 w2) : SZ n w w2 := ⟨h.1.ext x, h.2.ext_r x⟩
/-- A fault in a new block. -/
def FtAt (i : Nat) (ev : Value) (v : Value) (w : World) : Prop := ∃ b, v = .pointer (some ⟨b, 0, none⟩) ∧ Blk w b #[.int .i64 (i : Int), ev] 66
theorem FtAt.ext {i : Nat} {ev v : Value} {w w' : World} (h : FtAt i ev v w) (x : Ext w w') : FtAt i ev v w' := by
  obtain ⟨b, e, h⟩ := h
  exact ⟨b, e, h.ext x⟩
set_option maxRecDepth 100000 in
set_option maxHeartbeats 6400000 in
theorem rundo_bound (a1 a2 a3 : Option Addr) (c1 c2 c3 : Nat) (P : PP) (va : Value) (l : List Int) (w : World) (ad : Nat → Addr) (hE : ErrsP w ad) (hP : ProgR w w.heap.size (.slice a1 P.vars.length c1) (.slice a2 P.funs.length c2) (.slice a3 P.stmts.length c3) P) (hI : IntsR w w.heap.size va l)
    (hz1 : ∀ s ∈ P.vars, s.size ≤ 1000000) (hz2 : ∀ s ∈ P.names, s.size ≤ 1000000) (hok : P.err1 = 0 ∧ P.allWell) (hlen : l.length ≤ 2000) (hbad : ∃ x ∈ l, P.badk x = true) :
    Calls Tryz.prog 7 #[pval a1 a2 a3 c1 c2 c3 P, va] w fun e w' => Ext w w' ∧ ∃ v, e = .returned (.tuple #[zeroS, v]) ∧ RunNo ad P l w' v := by
  have HE := hid hE
  have HP := hid hP
  have hpl : (P.vars.length : Int) ≤ 9223372036854775807 := by
    obtain ⟨_, _, _, h2, h3, _⟩ := hP.vars
    omega
  have HI := hid hI
  have hll : (l.length : Int) ≤ 9223372036854775807 := by
    obtain ⟨_, _, _, h2, h3, _⟩ := hI
    omega
  obtain ⟨W1, hW1⟩ : ∃ W1, W1 = w.alloc (.cells (pcells a1 a2 a3 c1 c2 c3 P) 26) := ⟨_, rfl⟩
  have hx1 : Ext w W1 := by rw [hW1]; exact (Ext.refl _).alloc _
  obtain ⟨W2, hW2⟩ : ∃ W2, W2 = W1.alloc (.cells zcells 33) := ⟨_, rfl⟩
  have hx2 : Ext W1 W2 := by rw [hW2]; exact (Ext.refl _).alloc _
  have HW2 := hid (hx1.trans hx2)
  have HB1 : Hid (Blk W2 w.heap.size (pcells a1 a2 a3 c1 c2 c3 P) 26) := hid (by
    have : Blk W1 w.heap.size (pcells a1 a2 a3 c1 c2 c3 P) 26 := by rw [hW1]; exact Blk.new _ _ _
    exact this.ext hx2)
  have hs1 : W1.heap.size = w.heap.size + 1 := by rw [hW1, heap_size_alloc]
  have HB2 : Hid (Blk W2 (w.heap.size + 1) zcells 33) := hid (by
    rw [← hs1, hW2]; exact Blk.new _ _ _)
  have HC := hid (pcheck_any a1 a2 a3 c1 c2 c3 P W2 w.heap.size ad (hE.ext HW2.out) (hP.ext HW2.out) hz1 hz2 hpl)
  have HW2e : Hid (W2 = (w.alloc (.cells #[.slice a1 P.vars.length c1, .slice a2 P.funs.length c2, .slice a3 P.stmts.length c3] 26)).alloc (.cells #[.slice none 0 0, .slice none 0 0, .slice none 0 0] 33)) := hid (by rw [hW2, hW1]; rfl)
  obtain ⟨aa, ca, hva⟩ : ∃ aa ca, va = .slice aa l.length ca := by
    obtain ⟨aa, ca, h, _⟩ := hI
    exact ⟨aa, ca, h⟩
  subst hva
  unfold pval at HC ⊢
  clear hE hP hI hW1 hW2 hx1 hx2 hs1 hz1 hz2
  go_enter Tryz.func7, Tryz.ntmps7
  go_wp2_with fail
  rw [← HW2e.out]
  refine HC.out.mono ?_
  intro e w3 hx
  obtain ⟨v, rfl, hE3, hx3⟩ := hx
  have HB3 := hid (HB2.out.ext hx3)
  have HBp := hid (HB1.out.ext hx3)
  have HW3 := hid (HW2.out.trans hx3)
  have HE3 := hid hE3
  clear HC hE3 hx3
  have Hok := hid hok
  obtain rfl : v = .nilIface := by
    rcases HE3.out.form with ⟨h, _⟩ | ⟨_, h⟩
    · exact h
    · exact absurd hok h
  clear hok
  have HX := hid (indexfi_rd (.pointer (some ⟨w.heap.size, 0, none⟩)) P.badk (.slice aa l.length ca) l w3 w.heap.size (HI.out.old (HW3.out.old _)) (fun n w1 x => rundoc_any _ a1 a2 a3 c1 c2 c3 P n w1 (HBp.out.ext x)))
  have hl2 : ¬ 2000 < l.length := by omega
  go_wp2_with fail
  refine HX.out.mono ?_
  intro e w4 hx
  obtain ⟨r, rfl, hF, hx4⟩ := hx
  rcases hF with ⟨_, h⟩ | ⟨i, y, rfl, hi, hy, hb, hfirst⟩
  · obtain ⟨x, hx, h2⟩ := hbad
    rw [h x hx] at h2; cases h2
  have HK := hid (show P.FirstK l i from ⟨y, hy, hb, hfirst⟩)
  have HW4 := hid (HW3.out.trans hx4)
  have HB4 := hid (HB3.out.ext hx4)
  have gz : ∀ w1, Keep (fun b => b = w.heap.size + 1) w4 w1 → w1.cell? ⟨1, 0, none⟩ = some (evOf ad 2) := fun w1 hk => hk.cellx (HW4.out.cellx HE.out.at2) (fun e => by have := cell_lt HE.out.at2; simp only at e this; omega)
  unfold evOf at gz
  clear hy hb hfirst hx4 HX hbad hll
  go_wp2
  refine wp_flow (fun b => b = w.heap.size + 1) (by kernel_rfl) (by kernel_rfl) ?_
  apply Flow.d 0 _ rfl (by simp) (by kernel_rfl)
  · intro w1 hk; unfold does; go_simp; (try go_ints); exact DetR.mk
  simp only [List.getElem_toArray, List.getElem_cons_zero, List.getElem_cons_succ, Act.put, List.setIfInBounds_toArray, List.set_cons_zero, List.set_cons_succ]
  apply Flow.d 1 _ rfl (by simp) (by kernel_rfl)
  · intro w1 hk; unfold does; go_simp; (try go_ints); exact DetR.mk
  simp only [List.getElem_toArray, List.getElem_cons_zero, List.getElem_cons_succ, Act.put, List.setIfInBounds_toArray, List.set_cons_zero, List.set_cons_succ]
  apply Flow.d 2 _ rfl (by simp) (by kernel_rfl)
  · intro w1 hk; unfold does; go_simp; (try go_ints); exact DetR.mk
  simp only [List.getElem_toArray, List.getElem_cons_zero, List.getElem_cons_succ, Act.put, List.setIfInBounds_toArray, List.set_cons_zero, List.set_cons_succ]
  apply Flow.d 3 _ rfl (by simp) (by kernel_rfl)
  · intro w1 hk; unfold does; go_simp; (try go_ints); exact DetR.mk
  simp only [List.getElem_toArray, List.getElem_cons_zero, List.getElem_cons_succ, Act.put, List.setIfInBounds_toArray, List.set_cons_zero, List.set_cons_succ]
  refine Flow.par3g 4 5 6 _ _ _ rfl rfl rfl (by decide) (by decide) (fun _ _ h => by cases h) (fun _ _ h => by cases h) (fun _ _ h => by cases h) (by kernel_rfl) (by kernel_rfl) (by kernel_rfl) (by kernel_rfl) (by kernel_rfl) (by kernel_rfl)
    (fun u w' => u = undef ∧ SZ w.heap.size w4 w')
    (fun v w' => FtAt i (evOf ad 2) v w' ∧ SZ w.heap.size w4 w')
    (fun u v w' => u = undef ∧ FtAt i (evOf ad 2) v w' ∧ SZ w.heap.size w4 w')
    (fun v t w' => t = .iface 64 v ∧ FtAt i (evOf ad 2) v w' ∧ SZ w.heap.size w4 w')
    (fun u v t w' => (u = undef ∧ t = .iface 64 v) ∧ FtAt i (evOf ad 2) v w' ∧ SZ w.heap.size w4 w')
    (fun _ _ _ h y => ⟨h.1, h.2.ext y⟩) (fun _ _ _ h y => ⟨h.1.ext y, h.2.ext y⟩)
    (fun _ _ _ _ h y => ⟨h.1, h.2.1.ext y, h.2.2.ext y⟩) (fun _ _ _ _ h y => ⟨h.1, h.2.1.ext y, h.2.2.ext y⟩) (fun _ _ _ _ _ h y => ⟨h.1, h.2.1.ext y, h.2.2.ext y⟩) ?_ ?_ ?_ ?_ ?_ ?_ ?_ ?_
  · intro wa hC hk
    have hS : SZ w.heap.size w4 wa := ⟨HB4.out.ext hC, hk⟩
    have z0 := (hS.1).av 0 rfl
    have z1 := (hS.1).av 1 rfl
    have z2 := (hS.1).av 2 rfl
    have f0 := (hS.1).free 0
    have f1 := (hS.1).free 1
    have f2 := (hS.1).free 2
    have HBz := hid (store3 (v0 := .slice none 0 0) (v1 := .slice none 0 0) (v2 := .slice none 0 0) hS.1)
    have HKz := hid (store3_keep wa (w.heap.size + 1) (.slice none 0 0) (.slice none 0 0) (.slice none 0 0))
    simp only [zcells, List.setIfInBounds_toArray, List.set_cons_zero, List.set_cons_succ, List.getElem_toArray, List.getElem_cons_zero, List.getElem_cons_succ] at z0 z1 z2
    have hS2 : SZ w.heap.size w4 (((wa.setCell ⟨w.heap.size + 1, 0, none⟩ (.slice none 0 0)).setCell ⟨w.heap.size + 1, 1, none⟩ (.slice none 0 0)).setCell ⟨w.heap.size + 1, 2, none⟩ (.slice none 0 0)) := ⟨HBz.out, hS.2.trans HKz.out⟩
    clear hk
    unfold does
    go_simp
    exact ⟨hS2.2, rfl, hS2⟩
  · intro wa hC hk
    have hS : SZ w.heap.size w4 wa := ⟨HB4.out.ext hC, hk⟩
    unfold does
    go_simp
    exact ⟨hk.alloc _, ⟨_, rfl, Blk.new _ _ _⟩, hS.ext ((Ext.refl _).alloc _)⟩
  · rintro _ wa ⟨hF, hS⟩ hk
    have z0 := (hS.1).av 0 rfl
    have z1 := (hS.1).av 1 rfl
    have z2 := (hS.1).av 2 rfl
    have f0 := (hS.1).free 0
    have f1 := (hS.1).free 1
    have f2 := (hS.1).free 2
    have HBz := hid (store3 (v0 := .slice none 0 0) (v1 := .slice none 0 0) (v2 := .slice none 0 0) hS.1)
    have HKz := hid (store3_keep wa (w.heap.size + 1) (.slice none 0 0) (.slice none 0 0) (.slice none 0 0))
    simp only [zcells, List.setIfInBounds_toArray, List.set_cons_zero, List.set_cons_succ, List.getElem_toArray, List.getElem_cons_zero, List.getElem_cons_succ] at z0 z1 z2
    have hS2 : SZ w.heap.size w4 (((wa.setCell ⟨w.heap.size + 1, 0, none⟩ (.slice none 0 0)).setCell ⟨w.heap.size + 1, 1, none⟩ (.slice none 0 0)).setCell ⟨w.heap.size + 1, 2, none⟩ (.slice none 0 0)) := ⟨HBz.out, hS.2.trans HKz.out⟩
    clear hk
    unfold does
    go_simp
    obtain ⟨b, rfl, hb⟩ := hF
    exact ⟨hS2.2, rfl, ⟨b, rfl, hb.keep HKz.out fun e => Blk.ty_ne hb hS.1 (by decide) e⟩, hS2⟩
  · rintro _ wa ⟨rfl, hS⟩ hk
    unfold does
    go_simp
    exact ⟨hk.alloc _, ⟨_, rfl, Blk.new _ _ _⟩, hS.ext ((Ext.refl _).alloc _)⟩
  · rintro _ wa ⟨⟨b, rfl, hb⟩, hS⟩ hk
    unfold does
    go_simp
    exact ⟨hk, rfl, ⟨b, rfl, hb⟩, hS⟩
  · rintro _ _ wa ⟨rfl, ⟨b, rfl, hb⟩, hS⟩ hk
    unfold does
    go_simp
    exact ⟨hk, rfl, ⟨b, rfl, hb⟩, hS⟩
  · rintro _ _ _ ⟨_, ⟨rfl, rfl⟩, ⟨b, rfl, _⟩, _⟩
    simp only [List.getElem_toArray, List.getElem_cons_zero, List.getElem_cons_succ, Act.put, List.setIfInBounds_toArray, List.set_cons_zero, List.set_cons_succ]
    apply Flow.d 7 _ rfl (by simp) (by kernel_rfl)
    · intro w1 hk; unfold does; go_simp; (try go_ints); exact DetR.mk
    simp only [List.getElem_toArray, List.getElem_cons_zero, List.getElem_cons_succ, Act.put, List.setIfInBounds_toArray, List.set_cons_zero, List.set_cons_succ]
    refine Flow.fin (by kernel_rfl) fun wb hC hk => ?_
    obtain ⟨⟨b', eb, hbF⟩, hS⟩ : FtAt i (evOf ad 2) (.pointer (some ⟨b, 0, none⟩)) wb ∧ SZ w.heap.size w4 wb := by first | exact hC.2 | exact hC
    obtain rfl : b = b' := by simpa using eb
    have c0 := hS.1.av 0 rfl
    have c1 := hS.1.av 1 rfl
    have c2 := hS.1.av 2 rfl
    simp only [zcells, List.getElem_toArray, List.getElem_cons_zero, List.getElem_cons_succ] at c0 c1 c2
    have hE := hid (Keep.new HW4.out hS.2 (fun n hn => by omega))
    have HR : Hid (RunNo ad P l wb (.iface 64 (.pointer (some ⟨b, 0, none⟩)))) := hid (.inr (.inr ⟨Hok.out.1, Hok.out.2, hlen, i, b, HK.out, rfl, hbF⟩))
    clear hk hS hbF hC
    go_wp2
    exact bodyPost_ret (v := .tuple #[zeroS, .iface 64 (.pointer (some ⟨b, 0, none⟩))]) (by simp [results, Tryz.results7, go_sem, c0, c1, c2]; rfl) rfl ⟨hE.out, _, rfl, HR.out⟩
  · rintro _ _ ⟨_, rfl, ⟨b, rfl, _⟩, _⟩
    simp only [List.getElem_toArray, List.getElem_cons_zero, List.getElem_cons_succ, Act.put, List.setIfInBounds_toArray, List.set_cons_zero, List.set_cons_succ]
    refine Flow.one 6 _ rfl (by kernel_rfl) (fun _ w' => FtAt i (evOf ad 2) (.pointer (some ⟨b, 0, none⟩)) w' ∧ SZ w.heap.size w4 w') (fun _ _ _ h y => ⟨h.1.ext y, h.2.ext y⟩) ?_ ?_
    · rintro wa ⟨_, hF, hS⟩ hk
      have z0 := (hS.1).av 0 rfl
      have z1 := (hS.1).av 1 rfl
      have z2 := (hS.1).av 2 rfl
      have f0 := (hS.1).free 0
      have f1 := (hS.1).free 1
      have f2 := (hS.1).free 2
      have HBz := hid (store3 (v0 := .slice none 0 0) (v1 := .slice none 0 0) (v2 := .slice none 0 0) hS.1)
      have HKz := hid (store3_keep wa (w.heap.size + 1) (.slice none 0 0) (.slice none 0 0) (.slice none 0 0))
      simp only [zcells, List.setIfInBounds_toArray, List.set_cons_zero, List.set_cons_succ, List.getElem_toArray, List.getElem_cons_zero, List.getElem_cons_succ] at z0 z1 z2
      have hS2 : SZ w.heap.size w4 (((wa.setCell ⟨w.heap.size + 1, 0, none⟩ (.slice none 0 0)).setCell ⟨w.heap.size + 1, 1, none⟩ (.slice none 0 0)).setCell ⟨w.heap.size + 1, 2, none⟩ (.slice none 0 0)) := ⟨HBz.out, hS.2.trans HKz.out⟩
      clear hk
      unfold does
      go_simp
      obtain ⟨b', e, hb⟩ := hF
      exact ⟨hS2.2, ⟨b', e, hb.keep HKz.out fun e => Blk.ty_ne hb hS.1 (by decide) e⟩, hS2⟩
    rintro _ ⟨_, _⟩
    simp only [List.getElem_toArray, List.getElem_cons_zero, List.getElem_cons_succ, Act.put, List.setIfInBounds_toArray, List.set_cons_zero, List.set_cons_succ]
    apply Flow.d 7 _ rfl (by simp) (by kernel_rfl)
    · intro w1 hk; unfold does; go_simp; (try go_ints); exact DetR.mk
    simp only [List.getElem_toArray, List.getElem_cons_zero, List.getElem_cons_succ, Act.put, List.setIfInBounds_toArray, List.set_cons_zero, List.set_cons_succ]
    refine Flow.fin (by kernel_rfl) fun wb hC hk => ?_
    obtain ⟨⟨b', eb, hbF⟩, hS⟩ : FtAt i (evOf ad 2) (.pointer (some ⟨b, 0, none⟩)) wb ∧ SZ w.heap.size w4 wb := by first | exact hC.2 | exact hC
    obtain rfl : b = b' := by simpa using eb
    have c0 := hS.1.av 0 rfl
    have c1 := hS.1.av 1 rfl
    have c2 := hS.1.av 2 rfl
    simp only [zcells, List.getElem_toArray, List.getElem_cons_zero, List.getElem_cons_succ] at c0 c1 c2
    have hE := hid (Keep.new HW4.out hS.2 (fun n hn => by omega))
    have HR : Hid (RunNo ad P l wb (.iface 64 (.pointer (some ⟨b, 0, none⟩)))) := hid (.inr (.inr ⟨Hok.out.1, Hok.out.2, hlen, i, b, HK.out, rfl, hbF⟩))
    clear hk hS hbF hC
    go_wp2
    exact bodyPost_ret (v := .tuple #[zeroS, .iface 64 (.pointer (some ⟨b, 0, none⟩))]) (by simp [results, Tryz.results7, go_sem, c0, c1, c2]; rfl) rfl ⟨hE.out, _, rfl, HR.out⟩
end Go.Proofs.YtkabgmohgjljkaaGreatDoor
