
/- slices.Delete of one, at ints. -/
import Derived.Test.YtcfopaopcbjkeaaDoorProg
import Derived.Test.YtcfopaopcbjkeaaDoorOwn
namespace Go.Proofs.YtcfopaopcbjkeaaDoor
set_option linter.unusedSimpArgs false
set_option linter.unusedVariables false
open Go Go.RowKit

theorem erase_take (l : List Value) (len k : Nat) (hk : k < len) (hl : len ≤ l.length) : (l.take k ++ (l.drop (k + 1)).take (len - (k + 1)) ++ l.drop (k + (len - (k + 1)))).take (len - 1) = (l.take len).eraseIdx k := by
  rw [List.eraseIdx_eq_take_drop_succ, List.take_take, Nat.min_eq_left (by omega), List.drop_take, List.append_assoc, List.take_append, List.take_of_length_le (by simp; omega)]
  congr 1
  rw [List.take_append_of_le_length (by simp; omega), List.take_of_length_le (by simp; omega)]

theorem ints_info : (Tryd.prog.info? 3).map (fun i => (i.zero, i.size, i.bytes)) = some (some (.int .i64 0), 1, 8) := by kernel_rfl

set_option maxRecDepth 100000 in
set_option maxHeartbeats 1600000 in
theorem deli_any (g len cap k : Nat) (cur : Array Value) (w : World) (hb : Blk w g cur 3) (hs : cur.size = cap) (hl : len ≤ cap) (hm : cap ≤ maxLen) (hk : k < len) (hone : ∀ u ∈ cur.toList.take len, u.oneCell' = true) :
    Calls Tryd.prog 78 #[.slice (some ⟨g, 0, none⟩) len cap, .int .i64 k, .int .i64 ((k : Int) + 1)] w fun e w' => e = .returned (.slice (some ⟨g, 0, none⟩) (len - 1) cap) ∧ Keep (fun b => b = g) w w' ∧
      ∃ cur', Blk w' g cur' 3 ∧ cur'.size = cap ∧ cur'.toList.take (len - 1) = (cur.toList.take len).eraseIdx k := by
  have hm' : cap ≤ 9223372036854775807 := hm
  clear hm
  have h1 : ((k : Int) == (k : Int) + 1) = false := by simp; omega
  have h2 : (k : Int) + 1 ≤ (len : Int) := by omega
  have h3 : (k : Int) ≤ (len : Int) := by omega
  go_enter Tryd.func78, Tryd.ntmps78
  go_wp2
  refine wp_flowT (fun b => b = g) (by kernel_rfl) (by kernel_rfl) ?_
  obtain ⟨ti, hi, hz0, hz1, hz2⟩ := info_parts ints_info
  have hcl : cur.toList.length = cap := by simpa using hs
  generalize hnews : (cur.toList.drop (k + 1)).take (len - (k + 1)) = news
  have hnl : news.length = len - (k + 1) := by rw [← hnews, List.length_take, List.length_drop, hcl]; omega
  have hne : k + news.length ≤ cur.size := by omega
  generalize hcur' : (cur.toList.take (k * 1) ++ news ++ cur.toList.drop (k * 1 + news.length)) = cur'
  have hc'l : cur'.length = cap := by rw [← hcur']; simp [hnl]; omega
  have hres : cur'.take (len - 1) = (cur.toList.take len).eraseIdx k := by
    rw [← hcur', ← hnews, Nat.mul_one, List.length_take, List.length_drop, hcl, Nat.min_eq_left (by omega)]
    exact erase_take cur.toList len k hk (by omega)
  have hcells : ∀ w1, Ext w w1 → ∀ j u, news[j]? = some u → w1.cell? ⟨g, k + 1 + j, none⟩ = some u := by
    intro w1 hx j u hu
    rw [(hb.ext hx).cell]
    rw [← hnews, List.getElem?_take] at hu
    split at hu
    · simpa using hu
    · cases hu
  have hone' : ∀ u ∈ news, u.oneCell' = true := by
    intro u hu
    apply hone
    rw [← hnews] at hu
    have h3 := List.mem_of_mem_drop (i := k + 1) (l := cur.toList.take len) (a := u)
    apply h3
    rw [List.drop_take]
    exact hu
  have Hres := hid hres
  have Hcells := hid hcells
  have Hnews := hid hnews
  have Hcur := hid hcur'
  have Hone := hid hone'
  clear hres hcells hnews hcur' hcl hone hone'
  by_cases hcap : cap = k + 1
  · subst hcap
    obtain rfl : len = k + 1 := by omega
    repeat (apply FlowT.d; (intro w1 hk; unfold does; go_simp; (try go_ints); (first | exact DetR.mk | (simp only [↓IntWalk.iteOmega, Oper.doesUpon_value]; exact DetR.mk) | (simp only [↓IntWalk.iteOmega]; go_simp; (try go_ints); exact DetR.mk))); simp only [Act.put, List.setIfInBounds_toArray, List.set_cons_zero, List.set_cons_succ])
    refine FlowT.fin fun w1 hC hkk => ?_
    have hb1 := hb.ext hC
    have hclr := fun ty => run_clear_one (P := Tryd.prog) w1 22 ty 3 ti (.int .i64 0) Tryd.underlying22 hi hz0 rfl rfl g k 1 1 rfl cur hb1 (by omega)
    go_wp2
    go_ret
    refine ⟨rfl, hkk.set rfl _, _, hb1.set k _, by simp; omega, ?_⟩
    simp only [Array.toList_setIfInBounds, Nat.add_sub_cancel]
    rw [List.take_set, List.set_eq_of_length_le (by simp; omega), List.eraseIdx_eq_take_drop_succ, List.take_take, List.drop_take]
    simp
  · repeat (apply FlowT.d; (intro w1 hk; unfold does; go_simp; (try go_ints); (first | exact DetR.mk | (simp only [↓IntWalk.iteOmega, Oper.doesUpon_value]; exact DetR.mk) | (simp only [↓IntWalk.iteOmega]; go_simp; (try go_ints); exact DetR.mk))); simp only [Act.put, List.setIfInBounds_toArray, List.set_cons_zero, List.set_cons_succ])
    refine FlowT.v (.slice (some ⟨g, 0, none⟩) (k + (len - (k + 1))) cap) (fun w' => Blk w' g cur'.toArray 3) 6 rfl (by kernel_rfl) (fun _ _ h x => h.ext x) (fun w1 hC hkk => ?_) ?_
    · refine does_append_room rfl (.tmp 22) (.tmp 25) 22 rfl 3 ti Tryd.underlying22 hi g k cap cur (hb.ext hC) rfl _ (len - (k + 1)) _ news rfl (by rw [hz1]; omega) (fun j u hu => ?_) (fun u hu => Hone.out u hu) (by omega) (by rw [hz1]; omega) ⟨(hC.keep _).trans (setRow_keep _ _ _), rfl, ?_⟩
      · first
          | (have := Hcells.out w1 hC j u hu; simpa [Addr.add_lit] using this)
          | (exfalso; have : news.length = 0 := by omega
             rw [List.length_eq_zero_iff.1 this] at hu; simp at hu)
      · rw [hz1, Hcur.out]; exact setRow_blk (hb.ext hC) _
    simp only [Act.put, List.setIfInBounds_toArray, List.set_cons_zero, List.set_cons_succ]
    repeat (apply FlowT.d; (intro w1 hk; unfold does; go_simp; (try go_ints); (first | exact DetR.mk | (simp only [↓IntWalk.iteOmega, Oper.doesUpon_value]; exact DetR.mk) | (simp only [↓IntWalk.iteOmega]; go_simp; (try go_ints); exact DetR.mk))); simp only [Act.put, List.setIfInBounds_toArray, List.set_cons_zero, List.set_cons_succ])
    refine FlowT.fin fun w1 hC hkk => ?_
    have hlen : k + (len - (k + 1)) = len - 1 := by omega
    rw [hlen]
    have hsz : len - 1 < cur'.toArray.size := by simp; omega
    have hclr := fun ty => run_clear_one (P := Tryd.prog) w1 22 ty 3 ti (.int .i64 0) Tryd.underlying22 hi hz0 rfl rfl g (len - 1) (len - (len - 1)) (cap - (len - 1)) (by omega) cur'.toArray hC hsz
    go_wp2
    go_ret
    refine ⟨rfl, hkk.set rfl _, _, hC.set (len - 1) _, by simp; omega, ?_⟩
    rw [← Hres.out]
    simp only [Array.toList_setIfInBounds, List.toList_toArray]
    rw [List.take_set, List.set_eq_of_length_le (by simp; omega)]
end Go.Proofs.YtcfopaopcbjkeaaDoor
