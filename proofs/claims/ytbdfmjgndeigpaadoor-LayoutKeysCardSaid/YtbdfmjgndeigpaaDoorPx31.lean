-- by xprint (this session's program over the kit's printer)
import Derived.Test.YtbdfmjgndeigpaaDoorPx0
import Derived.Test.YtbdfmjgndeigpaaDoorPx1
import Derived.Test.YtbdfmjgndeigpaaDoorPx3
import Derived.Test.YtbdfmjgndeigpaaDoorPx8
import Derived.Test.YtbdfmjgndeigpaaDoorPx9
import Derived.Test.YtbdfmjgndeigpaaDoorPx15
import Derived.Test.YtbdfmjgndeigpaaDoorPx20
import Derived.Test.YtbdfmjgndeigpaaDoorPx21
import Derived.Test.YtbdfmjgndeigpaaDoorPx26
import Derived.Test.YtbdfmjgndeigpaaDoorPx30
namespace Go.Proofs.YtbdfmjgndeigpaaDoor.P
open Go.RowKit Go.Proofs.YtbdfmjgndeigpaaDoorW.PrintWords Go.Proofs.YtbdfmjgndeigpaaDoorW.PrintLast Go.Proofs.YtbdfmjgndeigpaaDoorW.PrintMore
attribute [local go_sem] max2_int min2_int max_two min_two max_three min_three max_four min_four   -- for this text's walks alone
set_option linter.unusedVariables false
set_option linter.unusedSimpArgs false

attribute [local go_sem high] eqA29
/-! ### r21_Same: function 25 -/
mutual
def r21_Same.j0 : Nat → Bool → Int → ByteArray → ByteArray → List Int → Int → ByteArray → ByteArray → List Int → Option (Bool)
 | 0, _, _, _, _, _, _, _, _, _ => none
 | k + 1, x33, x341000, x341001, x341002, x341003, x342000, x342001, x342002, x342003 => if x33 = true then (some false) else (r21_Same.l0 k 0 x341000 x341001 x341002 x341003 x342000 x342001 x342002 x342003)
def r21_Same.l0 : Nat → Int → Int → ByteArray → ByteArray → List Int → Int → ByteArray → ByteArray → List Int → Option (Bool)
 | 0, _, _, _, _, _, _, _, _, _ => none
 | k + 1, x5, x341000, x341001, x341002, x341003, x342000, x342001, x342002, x342003 => if x5 < (x341003.length : Int) then (if 0 ≤ x5 then (if x5 < (x342003.length : Int) then (if (rd x341003 x5) = (rd x342003 x5) then (r21_Same.l0 k (wrap64 (x5 + 1)) x341000 x341001 x341002 x341003 x342000 x342001 x342002 x342003) else (some false)) else (none)) else (none)) else (some true)
end
def r21_Same.f (k : Nat) (a0_0 : Int) (a0_1 : ByteArray) (a0_2 : ByteArray) (l0_3 : List Int) (a1_0 : Int) (a1_1 : ByteArray) (a1_2 : ByteArray) (l1_3 : List Int) : Option (Bool) := if a0_0 = a1_0 then (if a0_1.toList = a1_1.toList then (if a0_2.toList = a1_2.toList then (r21_Same.j0 k ((l0_3.length : Int) != (l1_3.length : Int)) a0_0 a0_1 a0_2 l0_3 a1_0 a1_1 a1_2 l1_3) else (r21_Same.j0 k true a0_0 a0_1 a0_2 l0_3 a1_0 a1_1 a1_2 l1_3)) else (r21_Same.j0 k true a0_0 a0_1 a0_2 l0_3 a1_0 a1_1 a1_2 l1_3)) else (r21_Same.j0 k true a0_0 a0_1 a0_2 l0_3 a1_0 a1_1 a1_2 l1_3)
theorem r21_Same.mono_l : ∀ k, (∀ y0 y1 y2 y3 y4 y5 y6 y7 y8, LeO (r21_Same.j0 k y0 y1 y2 y3 y4 y5 y6 y7 y8) (r21_Same.j0 (k + 1) y0 y1 y2 y3 y4 y5 y6 y7 y8)) ∧ (∀ y0 y1 y2 y3 y4 y5 y6 y7 y8, LeO (r21_Same.l0 k y0 y1 y2 y3 y4 y5 y6 y7 y8) (r21_Same.l0 (k + 1) y0 y1 y2 y3 y4 y5 y6 y7 y8))
 | 0 => ⟨fun _ _ _ _ _ _ _ _ _ r h => by simp [r21_Same.j0] at h, fun _ _ _ _ _ _ _ _ _ r h => by simp [r21_Same.l0] at h⟩
 | k + 1 => by
  obtain ⟨ih0, ih1⟩ := r21_Same.mono_l k
  refine ⟨?_, ?_⟩
  ·intro y0 y1 y2 y3 y4 y5 y6 y7 y8
   unfold r21_Same.j0
   repeat' first
   | (with_reducible exact ih0 _ _ _ _ _ _ _ _ _)
   | (with_reducible exact ih1 _ _ _ _ _ _ _ _ _)
   | (with_reducible exact LeO.refl _)
   | (with_reducible exact LeO.none _)
   | (with_reducible refine LeO.ite ?_ ?_)
   | (with_reducible refine LeO.bind ?_ (fun _ => ?_))
   | exact ih0 _ _ _ _ _ _ _ _ _
   | exact ih1 _ _ _ _ _ _ _ _ _
   | exact LeO.none _
   | refine LeO.ite ?_ ?_
   | refine LeO.bind ?_ (fun _ => ?_)
  ·intro y0 y1 y2 y3 y4 y5 y6 y7 y8
   unfold r21_Same.l0
   repeat' first
   | (with_reducible exact ih0 _ _ _ _ _ _ _ _ _)
   | (with_reducible exact ih1 _ _ _ _ _ _ _ _ _)
   | (with_reducible exact LeO.refl _)
   | (with_reducible exact LeO.none _)
   | (with_reducible refine LeO.ite ?_ ?_)
   | (with_reducible refine LeO.bind ?_ (fun _ => ?_))
   | exact ih0 _ _ _ _ _ _ _ _ _
   | exact ih1 _ _ _ _ _ _ _ _ _
   | exact LeO.none _
   | refine LeO.ite ?_ ?_
   | refine LeO.bind ?_ (fun _ => ?_)
theorem r21_Same.mono : ∀ a0 a1 a2 a3 a4 a5 a6 a7 k, LeO (r21_Same.f k a0 a1 a2 a3 a4 a5 a6 a7) (r21_Same.f (k + 1) a0 a1 a2 a3 a4 a5 a6 a7) := by
 intro a0 a1 a2 a3 a4 a5 a6 a7 k
 obtain ⟨ih0, ih1⟩ := r21_Same.mono_l k
 unfold r21_Same.f
 repeat' first
   | (with_reducible exact ih0 _ _ _ _ _ _ _ _ _)
   | (with_reducible exact ih1 _ _ _ _ _ _ _ _ _)
   | (with_reducible exact LeO.refl _)
   | (with_reducible exact LeO.none _)
   | (with_reducible refine LeO.ite ?_ ?_)
   | (with_reducible refine LeO.bind ?_ (fun _ => ?_))
   | exact ih0 _ _ _ _ _ _ _ _ _
   | exact ih1 _ _ _ _ _ _ _ _ _
   | exact LeO.none _
   | refine LeO.ite ?_ ?_
   | refine LeO.bind ?_ (fun _ => ?_)
set_option maxHeartbeats 8000000 in
set_option maxRecDepth 100000 in
theorem r21_Same.calls (k : Nat) (a0_0 : Int) (a0_1 : ByteArray) (a0_2 : ByteArray) (A0_3 : Option Addr) (c0_3 : Nat) (l0_3 : List Int) (a1_0 : Int) (a1_1 : ByteArray) (a1_2 : ByteArray) (A1_3 : Option Addr) (c1_3 : Nat) (l1_3 : List Int) (r : Bool) (w : World) (hr0_3 : Kd.C (Kd.int .i64) w A0_3 l0_3.length l0_3) (hc0_3 : l0_3.length ≤ c0_3) (hr1_3 : Kd.C (Kd.int .i64) w A1_3 l1_3.length l1_3) (hc1_3 : l1_3.length ≤ c1_3) (h : r21_Same.f k a0_0 a0_1 a0_2 l0_3 a1_0 a1_1 a1_2 l1_3 = some r) :
  Calls Tryd.prog 25 #[.agg #[.int .i64 a0_0, .string a0_1, .string a0_2, .slice A0_3 l0_3.length c0_3], .agg #[.int .i64 a1_0, .string a1_1, .string a1_2, .slice A1_3 l1_3.length c1_3]] w fun e w' => e = .returned (.bool r) ∧ Below w.heap.size w w' := by
 have hu25 := Tryd.underlying25
 have HR0_3 := Aside0.mk hr0_3
 have HC0_3 := Aside0.mk hc0_3
 clear hr0_3 hc0_3
 have HR1_3 := Aside0.mk hr1_3
 have HC1_3 := Aside0.mk hc1_3
 clear hr1_3 hc1_3
 have HB := Aside0.mk (Below.refl w.heap.size w)
 have H : (if a0_0 = a1_0 then (if a0_1.toList = a1_1.toList then (if a0_2.toList = a1_2.toList then (r21_Same.j0 k ((l0_3.length : Int) != (l1_3.length : Int)) a0_0 a0_1 a0_2 l0_3 a1_0 a1_1 a1_2 l1_3) else (r21_Same.j0 k true a0_0 a0_1 a0_2 l0_3 a1_0 a1_1 a1_2 l1_3)) else (r21_Same.j0 k true a0_0 a0_1 a0_2 l0_3 a1_0 a1_1 a1_2 l1_3)) else (r21_Same.j0 k true a0_0 a0_1 a0_2 l0_3 a1_0 a1_1 a1_2 l1_3)) = some r := h
 clear h
 have HC3 := Aside0.mk H
 clear H
 go_enter Tryd.func25, Tryd.ntmps25
 go_upto_region 1 with (first | ((with_reducible refine gate_dst (N := 2) rfl ?_); (try (refine gate_guard (by rfl) ?_; dsimp only)); refine box_event ?hg (N := 2) ?hd (cs := #[.int .i64 a0_0, .string a0_1, .string a0_2, .slice A0_3 l0_3.length c0_3]) (t := 25) ?hr ?_; (case hd => rfl); (case hg => rfl); (case hr => (go_simp; done)); intro gb340 hg w4 hbox hb; have n0_ := Aside0.mk (below_step (by repeat ((with_reducible exact HB.out))) hb); have n1_ := Aside0.mk (hbox); have n2_ := Aside0.mk ((by rw [hg]; exact (below_size (by repeat ((with_reducible exact HB.out)))) : w.heap.size ≤ gb340)); have n3_ := Aside0.mk ((by rw [hg]; exact (below_size (by repeat ((with_reducible exact HB.out)))) : w.heap.size ≤ gb340)); clear HB; have HB := n0_; have BK340 := n1_; have GW340 := n2_; have GE340 := n3_; clear n0_ n1_ n2_ n3_; clear hb hbox hg) | ((with_reducible refine gate_dst (N := 3) rfl ?_); (try (refine gate_guard (by rfl) ?_; dsimp only)); refine box_event ?hg (N := 3) ?hd (cs := #[.int .i64 a1_0, .string a1_1, .string a1_2, .slice A1_3 l1_3.length c1_3]) (t := 25) ?hr ?_; (case hd => rfl); (case hg => rfl); (case hr => (go_simp; done)); intro gb341 hg w5 hbox hb; have n0_ := Aside0.mk (blk_below (g := gb340) (o := .cells #[.int .i64 a0_0, .string a0_1, .string a0_2, .slice A0_3 l0_3.length c0_3] 25 (0, 0)) (by (with_reducible repeat (refine blk_drew ?_)); exact BK340.out) hb); have n1_ := Aside0.mk (below_step (by repeat ((with_reducible exact HB.out))) hb); have n2_ := Aside0.mk (hbox); have n3_ := Aside0.mk ((by rw [hg]; exact (below_size (by repeat ((with_reducible exact HB.out)))) : w.heap.size ≤ gb341)); have n4_ := Aside0.mk ((by rw [hg]; exact (below_size (by repeat ((with_reducible exact HB.out)))) : w.heap.size ≤ gb341)); have n5_ := Aside0.mk ((by rw [hg]; exact Nat.ne_of_lt (blk_lt (g := gb340) (o := .cells #[.int .i64 a0_0, .string a0_1, .string a0_2, .slice A0_3 l0_3.length c0_3] 25 (0, 0)) (by (with_reducible repeat (refine blk_drew ?_)); exact BK340.out)) : gb340 ≠ gb341)); have n6_ := Aside0.mk ((by rw [hg]; exact Nat.ne_of_gt (blk_lt (g := gb340) (o := .cells #[.int .i64 a0_0, .string a0_1, .string a0_2, .slice A0_3 l0_3.length c0_3] 25 (0, 0)) (by (with_reducible repeat (refine blk_drew ?_)); exact BK340.out)) : gb341 ≠ gb340)); clear BK340; clear HB; have BK340 := n0_; have HB := n1_; have BK341 := n2_; have GW341 := n3_; have GE341 := n4_; have NB340_341 := n5_; have NB341_340 := n6_; clear n0_ n1_ n2_ n3_ n4_ n5_ n6_; clear hb hbox hg))
 repeat (go_quiet (((with_reducible refine gate_dst (N := 2) rfl ?_); (try (refine gate_guard (by rfl) ?_; dsimp only)); refine box_event ?hg (N := 2) ?hd (cs := #[.int .i64 a0_0, .string a0_1, .string a0_2, .slice A0_3 l0_3.length c0_3]) (t := 25) ?hr ?_; (case hd => rfl); (case hg => rfl); (case hr => (go_simp; rfl)); intro gb340 hg w4 hbox hb; have n0_ := Aside0.mk (below_step (by repeat (exact HB.out)) hb); have n1_ := Aside0.mk (hbox); have n2_ := Aside0.mk ((by rw [hg]; exact (below_size (by repeat (exact HB.out))) : w.heap.size ≤ gb340)); have n3_ := Aside0.mk ((by rw [hg]; exact (below_size (by repeat (exact HB.out))) : w.heap.size ≤ gb340)); clear HB; have HB := n0_; have BK340 := n1_; have GW340 := n2_; have GE340 := n3_; clear n0_ n1_ n2_ n3_; clear hb hbox hg)); go_upto_region 1 with (((with_reducible refine gate_dst (N := 2) rfl ?_); (try (refine gate_guard (by rfl) ?_; dsimp only)); refine box_event ?hg (N := 2) ?hd (cs := #[.int .i64 a0_0, .string a0_1, .string a0_2, .slice A0_3 l0_3.length c0_3]) (t := 25) ?hr ?_; (case hd => rfl); (case hg => rfl); (case hr => (go_simp; rfl)); intro gb340 hg w4 hbox hb; have n0_ := Aside0.mk (below_step (by repeat (exact HB.out)) hb); have n1_ := Aside0.mk (hbox); have n2_ := Aside0.mk ((by rw [hg]; exact (below_size (by repeat (exact HB.out))) : w.heap.size ≤ gb340)); have n3_ := Aside0.mk ((by rw [hg]; exact (below_size (by repeat (exact HB.out))) : w.heap.size ≤ gb340)); clear HB; have HB := n0_; have BK340 := n1_; have GW340 := n2_; have GE340 := n3_; clear n0_ n1_ n2_ n3_; clear hb hbox hg)))
 (try simp only [Act.put, List.setIfInBounds_toArray, List.set_cons_zero, List.set_cons_succ])
 go_cut [33] (fun v33 wc => ∃ (kq : Nat) (x33_2 : Bool), v33 = .bool x33_2 ∧ Aside0 (r21_Same.j0 kq x33_2 a0_0 a0_1 a0_2 l0_3 a1_0 a1_1 a1_2 l1_3 = some r) ∧ Aside0 (kq ≤ k) ∧ Aside0 (wc.heap[gb340]? = some (.cells #[.int .i64 a0_0, .string a0_1, .string a0_2, (.slice A0_3 l0_3.length c0_3)] 25 (0, 0))) ∧ Aside0 (wc.heap[gb341]? = some (.cells #[.int .i64 a1_0, .string a1_1, .string a1_2, (.slice A1_3 l1_3.length c1_3)] 25 (0, 0))) ∧ Aside0 (Below w.heap.size w wc))
 case first =>
  have H := HC3.out
  clear HC3
  by_cases c6 : a0_0 = a1_0
  ·rw [if_pos c6] at H
   have c6b0 : (a0_0 == a1_0) = true := beq_iff_eq.mpr c6
   have c6b1 : (a0_0 != a1_0) = false := bne_eq_false_iff_eq.mpr c6
   clear c6
   (skip)
   by_cases c7 : a0_1.toList = a1_1.toList
   ·rw [if_pos c7] at H
    have c7b0 : (a0_1.toList == a1_1.toList) = true := beq_iff_eq.mpr c7
    have c7b1 : (a0_1.toList != a1_1.toList) = false := bne_eq_false_iff_eq.mpr c7
    clear c7
    by_cases c8 : a0_2.toList = a1_2.toList
    ·rw [if_pos c8] at H
     have c8b0 : (a0_2.toList == a1_2.toList) = true := beq_iff_eq.mpr c8
     have c8b1 : (a0_2.toList != a1_2.toList) = false := bne_eq_false_iff_eq.mpr c8
     clear c8
     have H' := Aside0.mk H
     clear H
     have hnb9 := NB340_341.out
     have hnc9 := NB341_340.out
     have hcz10_0 : w5.cell? ⟨gb340, 0, none⟩ = some (.int .i64 a0_0) := (blk_cell BK340.out 0).trans rfl
     have hcz10_1 : w5.cell? ⟨gb340, 1, none⟩ = some (.string a0_1) := (blk_cell BK340.out 1).trans rfl
     have hcz10_2 : w5.cell? ⟨gb340, 2, none⟩ = some (.string a0_2) := (blk_cell BK340.out 2).trans rfl
     have hcz10_3 : w5.cell? ⟨gb340, 3, none⟩ = some (.slice A0_3 l0_3.length c0_3) := (blk_cell BK340.out 3).trans rfl
     have hfz10_0 := blk_frozen BK340.out 0
     have hfz10_1 := blk_frozen BK340.out 1
     have hfz10_2 := blk_frozen BK340.out 2
     have hfz10_3 := blk_frozen BK340.out 3
     have hcz11_0 : w5.cell? ⟨gb341, 0, none⟩ = some (.int .i64 a1_0) := (blk_cell BK341.out 0).trans rfl
     have hcz11_1 : w5.cell? ⟨gb341, 1, none⟩ = some (.string a1_1) := (blk_cell BK341.out 1).trans rfl
     have hcz11_2 : w5.cell? ⟨gb341, 2, none⟩ = some (.string a1_2) := (blk_cell BK341.out 2).trans rfl
     have hcz11_3 : w5.cell? ⟨gb341, 3, none⟩ = some (.slice A1_3 l1_3.length c1_3) := (blk_cell BK341.out 3).trans rfl
     have hfz11_0 := blk_frozen BK341.out 0
     have hfz11_1 := blk_frozen BK341.out 1
     have hfz11_2 := blk_frozen BK341.out 2
     have hfz11_3 := blk_frozen BK341.out 3
     go_wp2
     repeat (go_quiet (fail); try go_wp2)
     go_meet
     case rel => exact ⟨_, (((l0_3.length : Int) != (l1_3.length : Int))), (by rfl), H', ⟨by omega⟩, ⟨by (with_reducible repeat (refine blk_drew ?_)); exact BK340.out⟩, ⟨by (with_reducible repeat (refine blk_drew ?_)); exact BK341.out⟩, ⟨by repeat ((with_reducible exact HB.out))⟩⟩
    ·rw [if_neg c8] at H
     have c8b0 : (a0_2.toList == a1_2.toList) = false := beq_eq_false_iff_ne.mpr c8
     have c8b1 : (a0_2.toList != a1_2.toList) = true := bne_iff_ne.mpr c8
     have H' := Aside0.mk H
     clear H
     have hnb12 := NB340_341.out
     have hnc12 := NB341_340.out
     have hcz13_0 : w5.cell? ⟨gb340, 0, none⟩ = some (.int .i64 a0_0) := (blk_cell BK340.out 0).trans rfl
     have hcz13_1 : w5.cell? ⟨gb340, 1, none⟩ = some (.string a0_1) := (blk_cell BK340.out 1).trans rfl
     have hcz13_2 : w5.cell? ⟨gb340, 2, none⟩ = some (.string a0_2) := (blk_cell BK340.out 2).trans rfl
     have hcz13_3 : w5.cell? ⟨gb340, 3, none⟩ = some (.slice A0_3 l0_3.length c0_3) := (blk_cell BK340.out 3).trans rfl
     have hfz13_0 := blk_frozen BK340.out 0
     have hfz13_1 := blk_frozen BK340.out 1
     have hfz13_2 := blk_frozen BK340.out 2
     have hfz13_3 := blk_frozen BK340.out 3
     have hcz14_0 : w5.cell? ⟨gb341, 0, none⟩ = some (.int .i64 a1_0) := (blk_cell BK341.out 0).trans rfl
     have hcz14_1 : w5.cell? ⟨gb341, 1, none⟩ = some (.string a1_1) := (blk_cell BK341.out 1).trans rfl
     have hcz14_2 : w5.cell? ⟨gb341, 2, none⟩ = some (.string a1_2) := (blk_cell BK341.out 2).trans rfl
     have hcz14_3 : w5.cell? ⟨gb341, 3, none⟩ = some (.slice A1_3 l1_3.length c1_3) := (blk_cell BK341.out 3).trans rfl
     have hfz14_0 := blk_frozen BK341.out 0
     have hfz14_1 := blk_frozen BK341.out 1
     have hfz14_2 := blk_frozen BK341.out 2
     have hfz14_3 := blk_frozen BK341.out 3
     go_wp2
     repeat (go_quiet (fail); try go_wp2)
     go_meet
     case rel => exact ⟨_, (true), (by rfl), H', ⟨by omega⟩, ⟨by (with_reducible repeat (refine blk_drew ?_)); exact BK340.out⟩, ⟨by (with_reducible repeat (refine blk_drew ?_)); exact BK341.out⟩, ⟨by repeat ((with_reducible exact HB.out))⟩⟩
   ·rw [if_neg c7] at H
    have c7b0 : (a0_1.toList == a1_1.toList) = false := beq_eq_false_iff_ne.mpr c7
    have c7b1 : (a0_1.toList != a1_1.toList) = true := bne_iff_ne.mpr c7
    have H' := Aside0.mk H
    clear H
    have hnb15 := NB340_341.out
    have hnc15 := NB341_340.out
    have hcz16_0 : w5.cell? ⟨gb340, 0, none⟩ = some (.int .i64 a0_0) := (blk_cell BK340.out 0).trans rfl
    have hcz16_1 : w5.cell? ⟨gb340, 1, none⟩ = some (.string a0_1) := (blk_cell BK340.out 1).trans rfl
    have hcz16_2 : w5.cell? ⟨gb340, 2, none⟩ = some (.string a0_2) := (blk_cell BK340.out 2).trans rfl
    have hcz16_3 : w5.cell? ⟨gb340, 3, none⟩ = some (.slice A0_3 l0_3.length c0_3) := (blk_cell BK340.out 3).trans rfl
    have hfz16_0 := blk_frozen BK340.out 0
    have hfz16_1 := blk_frozen BK340.out 1
    have hfz16_2 := blk_frozen BK340.out 2
    have hfz16_3 := blk_frozen BK340.out 3
    have hcz17_0 : w5.cell? ⟨gb341, 0, none⟩ = some (.int .i64 a1_0) := (blk_cell BK341.out 0).trans rfl
    have hcz17_1 : w5.cell? ⟨gb341, 1, none⟩ = some (.string a1_1) := (blk_cell BK341.out 1).trans rfl
    have hcz17_2 : w5.cell? ⟨gb341, 2, none⟩ = some (.string a1_2) := (blk_cell BK341.out 2).trans rfl
    have hcz17_3 : w5.cell? ⟨gb341, 3, none⟩ = some (.slice A1_3 l1_3.length c1_3) := (blk_cell BK341.out 3).trans rfl
    have hfz17_0 := blk_frozen BK341.out 0
    have hfz17_1 := blk_frozen BK341.out 1
    have hfz17_2 := blk_frozen BK341.out 2
    have hfz17_3 := blk_frozen BK341.out 3
    go_wp2
    repeat (go_quiet (fail); try go_wp2)
    go_meet
    case rel => exact ⟨_, (true), (by rfl), H', ⟨by omega⟩, ⟨by (with_reducible repeat (refine blk_drew ?_)); exact BK340.out⟩, ⟨by (with_reducible repeat (refine blk_drew ?_)); exact BK341.out⟩, ⟨by repeat ((with_reducible exact HB.out))⟩⟩
  ·rw [if_neg c6] at H
   have c6b0 : (a0_0 == a1_0) = false := beq_eq_false_iff_ne.mpr c6
   have c6b1 : (a0_0 != a1_0) = true := bne_iff_ne.mpr c6
   (skip)
   have H' := Aside0.mk H
   clear H
   have hnb18 := NB340_341.out
   have hnc18 := NB341_340.out
   have hcz19_0 : w5.cell? ⟨gb340, 0, none⟩ = some (.int .i64 a0_0) := (blk_cell BK340.out 0).trans rfl
   have hcz19_1 : w5.cell? ⟨gb340, 1, none⟩ = some (.string a0_1) := (blk_cell BK340.out 1).trans rfl
   have hcz19_2 : w5.cell? ⟨gb340, 2, none⟩ = some (.string a0_2) := (blk_cell BK340.out 2).trans rfl
   have hcz19_3 : w5.cell? ⟨gb340, 3, none⟩ = some (.slice A0_3 l0_3.length c0_3) := (blk_cell BK340.out 3).trans rfl
   have hfz19_0 := blk_frozen BK340.out 0
   have hfz19_1 := blk_frozen BK340.out 1
   have hfz19_2 := blk_frozen BK340.out 2
   have hfz19_3 := blk_frozen BK340.out 3
   have hcz20_0 : w5.cell? ⟨gb341, 0, none⟩ = some (.int .i64 a1_0) := (blk_cell BK341.out 0).trans rfl
   have hcz20_1 : w5.cell? ⟨gb341, 1, none⟩ = some (.string a1_1) := (blk_cell BK341.out 1).trans rfl
   have hcz20_2 : w5.cell? ⟨gb341, 2, none⟩ = some (.string a1_2) := (blk_cell BK341.out 2).trans rfl
   have hcz20_3 : w5.cell? ⟨gb341, 3, none⟩ = some (.slice A1_3 l1_3.length c1_3) := (blk_cell BK341.out 3).trans rfl
   have hfz20_0 := blk_frozen BK341.out 0
   have hfz20_1 := blk_frozen BK341.out 1
   have hfz20_2 := blk_frozen BK341.out 2
   have hfz20_3 := blk_frozen BK341.out 3
   go_wp2
   repeat (go_quiet (fail); try go_wp2)
   go_meet
   case rel => exact ⟨_, (true), (by rfl), H', ⟨by omega⟩, ⟨by (with_reducible repeat (refine blk_drew ?_)); exact BK340.out⟩, ⟨by (with_reducible repeat (refine blk_drew ?_)); exact BK341.out⟩, ⟨by repeat ((with_reducible exact HB.out))⟩⟩
 case rest =>
  clear HC3
  try clear c1
  try clear c2
  try clear p2
  try clear c6
  try clear c6b0
  try clear c6b1
  try clear c7
  try clear c7b0
  try clear c7b1
  try clear c8
  try clear c8b0
  try clear c8b1
  try clear c9
  try clear c12
  try clear c15
  try clear c18
  try clear hcz10_0
  try clear hcz10_1
  try clear hcz10_2
  try clear hcz10_3
  try clear hcz11_0
  try clear hcz11_1
  try clear hcz11_2
  try clear hcz11_3
  try clear hcz13_0
  try clear hcz13_1
  try clear hcz13_2
  try clear hcz13_3
  try clear hcz14_0
  try clear hcz14_1
  try clear hcz14_2
  try clear hcz14_3
  try clear hcz16_0
  try clear hcz16_1
  try clear hcz16_2
  try clear hcz16_3
  try clear hcz17_0
  try clear hcz17_1
  try clear hcz17_2
  try clear hcz17_3
  try clear hcz19_0
  try clear hcz19_1
  try clear hcz19_2
  try clear hcz19_3
  try clear hcz20_0
  try clear hcz20_1
  try clear hcz20_2
  try clear hcz20_3
  try clear hfz10_0
  try clear hfz10_1
  try clear hfz10_2
  try clear hfz10_3
  try clear hfz11_0
  try clear hfz11_1
  try clear hfz11_2
  try clear hfz11_3
  try clear hfz13_0
  try clear hfz13_1
  try clear hfz13_2
  try clear hfz13_3
  try clear hfz14_0
  try clear hfz14_1
  try clear hfz14_2
  try clear hfz14_3
  try clear hfz16_0
  try clear hfz16_1
  try clear hfz16_2
  try clear hfz16_3
  try clear hfz17_0
  try clear hfz17_1
  try clear hfz17_2
  try clear hfz17_3
  try clear hfz19_0
  try clear hfz19_1
  try clear hfz19_2
  try clear hfz19_3
  try clear hfz20_0
  try clear hfz20_1
  try clear hfz20_2
  try clear hfz20_3
  obtain ⟨kq, x33_2, rfl, HA, HJ2, BK340, BK341, HB⟩ := hcut
  cases kq with
  | zero => exact absurd HA.out (by simp [r21_Same.j0])
  | succ kj2 =>
   have H := HA.out
   clear HA
   simp only [r21_Same.j0] at H
   by_cases c21 : x33_2 = true
   ·subst c21
    have H1 : (some false) = some r := by rw [if_pos rfl] at H; exact H
    clear H
    have H := H1
    clear H1
    obtain rfl := Option.some.inj H
    go_wp2
    repeat (go_quiet (fail); try go_wp2)
    go_ret
    exact ⟨by rfl, by repeat ((with_reducible exact HB.out))⟩
   ·replace c21 := Bool.eq_false_iff.mpr c21
    subst c21
    have H1 : (r21_Same.l0 kj2 0 a0_0 a0_1 a0_2 l0_3 a1_0 a1_1 a1_2 l1_3) = some r := by rw [if_neg (show ¬ (false = true) by decide)] at H; exact H
    clear H
    have H := H1
    clear H1
    have H' := Aside0.mk H
    clear H
    go_wp2
    repeat (go_quiet (fail); try go_wp2)
    go_loopg [5] kj2 (fun kq v5 w' => ∃ (x5_2 : Int), v5 = .int .i64 x5_2 ∧ Aside0 (r21_Same.l0 kq x5_2 a0_0 a0_1 a0_2 l0_3 a1_0 a1_1 a1_2 l1_3 = some r) ∧ Aside0 (kq ≤ kj2) ∧ Aside0 (w'.heap[gb340]? = some (.cells #[.int .i64 a0_0, .string a0_1, .string a0_2, (.slice A0_3 l0_3.length c0_3)] 25 (0, 0))) ∧ Aside0 (w'.heap[gb341]? = some (.cells #[.int .i64 a1_0, .string a1_1, .string a1_2, (.slice A1_3 l1_3.length c1_3)] 25 (0, 0))) ∧ Aside0 (Below w.heap.size w w'))
    case atStart => exact ⟨(0), (by rfl), H', ⟨Nat.le_refl _⟩, ⟨by (with_reducible repeat (refine blk_drew ?_)); exact BK340.out⟩, ⟨by (with_reducible repeat (refine blk_drew ?_)); exact BK341.out⟩, ⟨by repeat ((with_reducible exact HB.out))⟩⟩
    case round =>
     clear H'
     try clear c1
     try clear c2
     try clear p2
     try clear c6
     try clear c6b0
     try clear c6b1
     try clear c7
     try clear c7b0
     try clear c7b1
     try clear c8
     try clear c8b0
     try clear c8b1
     try clear c9
     try clear c12
     try clear c15
     try clear c18
     try clear c21
     try clear hcz10_0
     try clear hcz10_1
     try clear hcz10_2
     try clear hcz10_3
     try clear hcz11_0
     try clear hcz11_1
     try clear hcz11_2
     try clear hcz11_3
     try clear hcz13_0
     try clear hcz13_1
     try clear hcz13_2
     try clear hcz13_3
     try clear hcz14_0
     try clear hcz14_1
     try clear hcz14_2
     try clear hcz14_3
     try clear hcz16_0
     try clear hcz16_1
     try clear hcz16_2
     try clear hcz16_3
     try clear hcz17_0
     try clear hcz17_1
     try clear hcz17_2
     try clear hcz17_3
     try clear hcz19_0
     try clear hcz19_1
     try clear hcz19_2
     try clear hcz19_3
     try clear hcz20_0
     try clear hcz20_1
     try clear hcz20_2
     try clear hcz20_3
     try clear hfz10_0
     try clear hfz10_1
     try clear hfz10_2
     try clear hfz10_3
     try clear hfz11_0
     try clear hfz11_1
     try clear hfz11_2
     try clear hfz11_3
     try clear hfz13_0
     try clear hfz13_1
     try clear hfz13_2
     try clear hfz13_3
     try clear hfz14_0
     try clear hfz14_1
     try clear hfz14_2
     try clear hfz14_3
     try clear hfz16_0
     try clear hfz16_1
     try clear hfz16_2
     try clear hfz16_3
     try clear hfz17_0
     try clear hfz17_1
     try clear hfz17_2
     try clear hfz17_3
     try clear hfz19_0
     try clear hfz19_1
     try clear hfz19_2
     try clear hfz19_3
     try clear hfz20_0
     try clear hfz20_1
     try clear hfz20_2
     try clear hfz20_3
     try clear p2
     obtain ⟨x5_2, rfl, HA, HK2, BK340, BK341, HB⟩ := hrel
     cases gk with
     | zero => exact absurd HA.out (by simp [r21_Same.l0])
     | succ k2 =>
      have H := HA.out
      clear HA
      simp only [r21_Same.l0] at H
      by_cases c22 : x5_2 < (l0_3.length : Int)
      ·rw [if_pos c22] at H
       have c22b0 : decide (x5_2 < (l0_3.length : Int)) = true := decide_eq_true c22
       clear c22
       by_cases c23 : 0 ≤ x5_2
       ·rw [if_pos c23] at H
        have c23b0 : decide (0 ≤ x5_2) = true := decide_eq_true c23
        clear c23
        by_cases c24 : x5_2 < (l1_3.length : Int)
        ·rw [if_pos c24] at H
         have c24b0 : decide (x5_2 < (l1_3.length : Int)) = true := decide_eq_true c24
         clear c24
         by_cases c25 : (rd l0_3 x5_2) = (rd l1_3 x5_2)
         ·rw [if_pos c25] at H
          have c25b0 : ((rd l0_3 x5_2) == (rd l1_3 x5_2)) = true := beq_iff_eq.mpr c25
          have c25b1 : ((rd l0_3 x5_2) != (rd l1_3 x5_2)) = false := bne_eq_false_iff_eq.mpr c25
          clear c25
          have H' := Aside0.mk H
          clear H
          have hnb26 := NB340_341.out
          have hnc26 := NB341_340.out
          have hcz27_0 : wr.cell? ⟨gb340, 0, none⟩ = some (.int .i64 a0_0) := (blk_cell BK340.out 0).trans rfl
          have hcz27_1 : wr.cell? ⟨gb340, 1, none⟩ = some (.string a0_1) := (blk_cell BK340.out 1).trans rfl
          have hcz27_2 : wr.cell? ⟨gb340, 2, none⟩ = some (.string a0_2) := (blk_cell BK340.out 2).trans rfl
          have hcz27_3 : wr.cell? ⟨gb340, 3, none⟩ = some (.slice A0_3 l0_3.length c0_3) := (blk_cell BK340.out 3).trans rfl
          have hfz27_0 := blk_frozen BK340.out 0
          have hfz27_1 := blk_frozen BK340.out 1
          have hfz27_2 := blk_frozen BK340.out 2
          have hfz27_3 := blk_frozen BK340.out 3
          have p342 : 0 ≤ (x5_2 : Int) := of_decide_eq_true (by (with_reducible assumption))
          have q342 : x5_2 < (l0_3.length : Int) := of_decide_eq_true (by (with_reducible assumption))
          obtain ⟨ad342, e342, hx342_0⟩ := Kd.at_int HR0_3.out x5_2 p342 q342
          cases e342
          replace hx342_0 := (HB.out.cell (World.block_lt_of_cell? w _ hx342_0)).trans hx342_0
          replace p342 := eq_true p342
          replace q342 := eq_true q342
          have hcz28_0 : wr.cell? ⟨gb341, 0, none⟩ = some (.int .i64 a1_0) := (blk_cell BK341.out 0).trans rfl
          have hcz28_1 : wr.cell? ⟨gb341, 1, none⟩ = some (.string a1_1) := (blk_cell BK341.out 1).trans rfl
          have hcz28_2 : wr.cell? ⟨gb341, 2, none⟩ = some (.string a1_2) := (blk_cell BK341.out 2).trans rfl
          have hcz28_3 : wr.cell? ⟨gb341, 3, none⟩ = some (.slice A1_3 l1_3.length c1_3) := (blk_cell BK341.out 3).trans rfl
          have hfz28_0 := blk_frozen BK341.out 0
          have hfz28_1 := blk_frozen BK341.out 1
          have hfz28_2 := blk_frozen BK341.out 2
          have hfz28_3 := blk_frozen BK341.out 3
          have p343 : 0 ≤ (x5_2 : Int) := of_decide_eq_true (by (with_reducible assumption))
          have q343 : x5_2 < (l1_3.length : Int) := of_decide_eq_true (by (with_reducible assumption))
          obtain ⟨ad343, e343, hx343_0⟩ := Kd.at_int HR1_3.out x5_2 p343 q343
          cases e343
          replace hx343_0 := (HB.out.cell (World.block_lt_of_cell? w _ hx343_0)).trans hx343_0
          replace p343 := eq_true p343
          replace q343 := eq_true q343
          go_wp2
          repeat (go_quiet (fail); try go_wp2)
          go_roundg k2
          case measure => have := HJ2.out; have := HK2.out; omega
          case rel => exact ⟨(wrap64 (x5_2 + 1)), (by rfl), H', ⟨by have := HJ2.out; have := HK2.out; omega⟩, ⟨by (with_reducible repeat (refine blk_drewN ?_ _)); exact BK340.out⟩, ⟨by (with_reducible repeat (refine blk_drewN ?_ _)); exact BK341.out⟩, ⟨by repeat ((with_reducible first | exact HB.out | apply pw_below_drewN))⟩⟩
         ·rw [if_neg c25] at H
          have c25b0 : ((rd l0_3 x5_2) == (rd l1_3 x5_2)) = false := beq_eq_false_iff_ne.mpr c25
          have c25b1 : ((rd l0_3 x5_2) != (rd l1_3 x5_2)) = true := bne_iff_ne.mpr c25
          obtain rfl := Option.some.inj H
          have hnb29 := NB340_341.out
          have hnc29 := NB341_340.out
          have hcz30_0 : wr.cell? ⟨gb340, 0, none⟩ = some (.int .i64 a0_0) := (blk_cell BK340.out 0).trans rfl
          have hcz30_1 : wr.cell? ⟨gb340, 1, none⟩ = some (.string a0_1) := (blk_cell BK340.out 1).trans rfl
          have hcz30_2 : wr.cell? ⟨gb340, 2, none⟩ = some (.string a0_2) := (blk_cell BK340.out 2).trans rfl
          have hcz30_3 : wr.cell? ⟨gb340, 3, none⟩ = some (.slice A0_3 l0_3.length c0_3) := (blk_cell BK340.out 3).trans rfl
          have hfz30_0 := blk_frozen BK340.out 0
          have hfz30_1 := blk_frozen BK340.out 1
          have hfz30_2 := blk_frozen BK340.out 2
          have hfz30_3 := blk_frozen BK340.out 3
          have p342 : 0 ≤ (x5_2 : Int) := of_decide_eq_true (by (with_reducible assumption))
          have q342 : x5_2 < (l0_3.length : Int) := of_decide_eq_true (by (with_reducible assumption))
          obtain ⟨ad342, e342, hx342_0⟩ := Kd.at_int HR0_3.out x5_2 p342 q342
          cases e342
          replace hx342_0 := (HB.out.cell (World.block_lt_of_cell? w _ hx342_0)).trans hx342_0
          replace p342 := eq_true p342
          replace q342 := eq_true q342
          have hcz31_0 : wr.cell? ⟨gb341, 0, none⟩ = some (.int .i64 a1_0) := (blk_cell BK341.out 0).trans rfl
          have hcz31_1 : wr.cell? ⟨gb341, 1, none⟩ = some (.string a1_1) := (blk_cell BK341.out 1).trans rfl
          have hcz31_2 : wr.cell? ⟨gb341, 2, none⟩ = some (.string a1_2) := (blk_cell BK341.out 2).trans rfl
          have hcz31_3 : wr.cell? ⟨gb341, 3, none⟩ = some (.slice A1_3 l1_3.length c1_3) := (blk_cell BK341.out 3).trans rfl
          have hfz31_0 := blk_frozen BK341.out 0
          have hfz31_1 := blk_frozen BK341.out 1
          have hfz31_2 := blk_frozen BK341.out 2
          have hfz31_3 := blk_frozen BK341.out 3
          have p343 : 0 ≤ (x5_2 : Int) := of_decide_eq_true (by (with_reducible assumption))
          have q343 : x5_2 < (l1_3.length : Int) := of_decide_eq_true (by (with_reducible assumption))
          obtain ⟨ad343, e343, hx343_0⟩ := Kd.at_int HR1_3.out x5_2 p343 q343
          cases e343
          replace hx343_0 := (HB.out.cell (World.block_lt_of_cell? w _ hx343_0)).trans hx343_0
          replace p343 := eq_true p343
          replace q343 := eq_true q343
          go_wp2
          repeat (go_quiet (fail); try go_wp2)
          go_ret
          exact ⟨by rfl, by repeat ((with_reducible first | exact HB.out | apply pw_below_drewN))⟩
        ·rw [if_neg c24] at H
         exact absurd H (by simp)
       ·rw [if_neg c23] at H
        exact absurd H (by simp)
      ·rw [if_neg c22] at H
       have c22b0 : decide (x5_2 < (l0_3.length : Int)) = false := decide_eq_false c22
       clear c22
       obtain rfl := Option.some.inj H
       have hnb32 := NB340_341.out
       have hnc32 := NB341_340.out
       have hcz33_0 : wr.cell? ⟨gb340, 0, none⟩ = some (.int .i64 a0_0) := (blk_cell BK340.out 0).trans rfl
       have hcz33_1 : wr.cell? ⟨gb340, 1, none⟩ = some (.string a0_1) := (blk_cell BK340.out 1).trans rfl
       have hcz33_2 : wr.cell? ⟨gb340, 2, none⟩ = some (.string a0_2) := (blk_cell BK340.out 2).trans rfl
       have hcz33_3 : wr.cell? ⟨gb340, 3, none⟩ = some (.slice A0_3 l0_3.length c0_3) := (blk_cell BK340.out 3).trans rfl
       have hfz33_0 := blk_frozen BK340.out 0
       have hfz33_1 := blk_frozen BK340.out 1
       have hfz33_2 := blk_frozen BK340.out 2
       have hfz33_3 := blk_frozen BK340.out 3
       go_wp2
       repeat (go_quiet (fail); try go_wp2)
       go_ret
       exact ⟨by rfl, by repeat ((with_reducible exact HB.out))⟩

/-! ### w21_LayoutKeys: function 6 -/
def w21_LayoutKeys.f (k : Nat) (a0_0 : Int) (a0_1 : ByteArray) (a0_2 : ByteArray) (l0_3 : List Int) (a1 : ByteArray) : Option (Bool) := (w21_few.f a0_0 a0_1 a0_2 l0_3).bind fun t345 => (if t345 = true then ((layout_Key.f k a0_0 a0_1 a0_2 l0_3).bind fun bt347 => ((r21_Key.f k a0_0 a0_1 a0_2 l0_3).bind fun bt349 => ((layout_Span.f k a0_0 a0_1 a0_2 l0_3).bind fun bt351 => ((r21_Span.f k a0_0 a0_1 a0_2 l0_3).bind fun bt355 => ((layout_Parse.f k a1).bind fun bt359 => ((r21_Parse.f k a1).bind fun bt367 => (if bt347.1.toList = bt349.1.toList then (if bt347.2 = bt349.2 then (if (bt351.1.toList == bt355.1.toList && (bt351.2.1.toList == bt355.2.1.toList)) = true then (if bt351.2.2 = bt355.2.2 then ((r21_Same.f k bt359.1 bt359.2.1 bt359.2.2.1 bt359.2.2.2.1 bt367.1 bt367.2.1 bt367.2.2.1 bt367.2.2.2.1).bind fun t375 => (if t375 = true then (if bt359.2.2.2.2 = bt367.2.2.2.2 then ((w21_lives.f k).bind fun t376 => (some t376)) else (none)) else (none))) else (none)) else (none)) else (none)) else (none)))))))) else ((w21_lives.f k).bind fun t346 => (some t346)))
theorem w21_LayoutKeys.mono : ∀ a0 a1 a2 a3 a4 k, LeO (w21_LayoutKeys.f k a0 a1 a2 a3 a4) (w21_LayoutKeys.f (k + 1) a0 a1 a2 a3 a4) := by
 intro a0 a1 a2 a3 a4 k
 unfold w21_LayoutKeys.f
 repeat' first
   | (with_reducible exact layout_Key.mono _ _ _ _ _)
   | (with_reducible exact layout_Parse.mono _ _)
   | (with_reducible exact layout_Span.mono _ _ _ _ _)
   | (with_reducible exact r21_Key.mono _ _ _ _ _)
   | (with_reducible exact r21_Parse.mono _ _)
   | (with_reducible exact r21_Same.mono _ _ _ _ _ _ _ _ _)
   | (with_reducible exact r21_Span.mono _ _ _ _ _)
   | (with_reducible exact w21_lives.mono _)
   | (with_reducible exact LeO.refl _)
   | (with_reducible exact LeO.none _)
   | (with_reducible refine LeO.ite ?_ ?_)
   | (with_reducible refine LeO.bind ?_ (fun _ => ?_))
   | exact layout_Key.mono _ _ _ _ _
   | exact layout_Parse.mono _ _
   | exact layout_Span.mono _ _ _ _ _
   | exact r21_Key.mono _ _ _ _ _
   | exact r21_Parse.mono _ _
   | exact r21_Same.mono _ _ _ _ _ _ _ _ _
   | exact r21_Span.mono _ _ _ _ _
   | exact w21_lives.mono _
   | exact LeO.none _
   | refine LeO.ite ?_ ?_
   | refine LeO.bind ?_ (fun _ => ?_)
set_option maxHeartbeats 8000000 in
set_option maxRecDepth 100000 in
theorem w21_LayoutKeys.calls (k : Nat) (a0_0 : Int) (a0_1 : ByteArray) (a0_2 : ByteArray) (A0_3 : Option Addr) (c0_3 : Nat) (l0_3 : List Int) (a1 : ByteArray) (r : Bool) (w : World) (hr0_3 : Kd.C (Kd.int .i64) w A0_3 l0_3.length l0_3) (hc0_3 : l0_3.length ≤ c0_3) (h : w21_LayoutKeys.f k a0_0 a0_1 a0_2 l0_3 a1 = some r) (hL : TabsAt w) :
  Calls Tryd.prog 6 #[.agg #[.int .i64 a0_0, .string a0_1, .string a0_2, .slice A0_3 l0_3.length c0_3], .string a1] w fun e w' => e = .returned (.bool r) ∧ Below w.heap.size w w' := by
 have hu25 := Tryd.underlying25
 have hu29 := Tryd.underlying29
 have HR0_3 := Aside0.mk hr0_3
 have HC0_3 := Aside0.mk hc0_3
 clear hr0_3 hc0_3
 have HB := Aside0.mk (Below.refl w.heap.size w)
 have H : ((w21_few.f a0_0 a0_1 a0_2 l0_3).bind fun t345 => (if t345 = true then ((layout_Key.f k a0_0 a0_1 a0_2 l0_3).bind fun bt347 => ((r21_Key.f k a0_0 a0_1 a0_2 l0_3).bind fun bt349 => ((layout_Span.f k a0_0 a0_1 a0_2 l0_3).bind fun bt351 => ((r21_Span.f k a0_0 a0_1 a0_2 l0_3).bind fun bt355 => ((layout_Parse.f k a1).bind fun bt359 => ((r21_Parse.f k a1).bind fun bt367 => (if bt347.1.toList = bt349.1.toList then (if bt347.2 = bt349.2 then (if (bt351.1.toList == bt355.1.toList && (bt351.2.1.toList == bt355.2.1.toList)) = true then (if bt351.2.2 = bt355.2.2 then ((r21_Same.f k bt359.1 bt359.2.1 bt359.2.2.1 bt359.2.2.2.1 bt367.1 bt367.2.1 bt367.2.2.1 bt367.2.2.2.1).bind fun t375 => (if t375 = true then (if bt359.2.2.2.2 = bt367.2.2.2.2 then ((w21_lives.f k).bind fun t376 => (some t376)) else (none)) else (none))) else (none)) else (none)) else (none)) else (none)))))))) else ((w21_lives.f k).bind fun t346 => (some t346)))) = some r := h
 clear h
 replace H := Option.bind_eq_some_iff.mp H
 obtain ⟨t345, A30, H⟩ := H
 replace H : (if t345 = true then ((layout_Key.f k a0_0 a0_1 a0_2 l0_3).bind fun bt347 => ((r21_Key.f k a0_0 a0_1 a0_2 l0_3).bind fun bt349 => ((layout_Span.f k a0_0 a0_1 a0_2 l0_3).bind fun bt351 => ((r21_Span.f k a0_0 a0_1 a0_2 l0_3).bind fun bt355 => ((layout_Parse.f k a1).bind fun bt359 => ((r21_Parse.f k a1).bind fun bt367 => (if bt347.1.toList = bt349.1.toList then (if bt347.2 = bt349.2 then (if (bt351.1.toList == bt355.1.toList && (bt351.2.1.toList == bt355.2.1.toList)) = true then (if bt351.2.2 = bt355.2.2 then ((r21_Same.f k bt359.1 bt359.2.1 bt359.2.2.1 bt359.2.2.2.1 bt367.1 bt367.2.1 bt367.2.2.1 bt367.2.2.2.1).bind fun t375 => (if t375 = true then (if bt359.2.2.2.2 = bt367.2.2.2.2 then ((w21_lives.f k).bind fun t376 => (some t376)) else (none)) else (none))) else (none)) else (none)) else (none)) else (none)))))))) else ((w21_lives.f k).bind fun t346 => (some t346))) = some r := H
 have A3 := Aside0.mk A30
 clear A30
 by_cases c4 : t345 = true
 ·subst c4
  have H1 : ((layout_Key.f k a0_0 a0_1 a0_2 l0_3).bind fun bt347 => ((r21_Key.f k a0_0 a0_1 a0_2 l0_3).bind fun bt349 => ((layout_Span.f k a0_0 a0_1 a0_2 l0_3).bind fun bt351 => ((r21_Span.f k a0_0 a0_1 a0_2 l0_3).bind fun bt355 => ((layout_Parse.f k a1).bind fun bt359 => ((r21_Parse.f k a1).bind fun bt367 => (if bt347.1.toList = bt349.1.toList then (if bt347.2 = bt349.2 then (if (bt351.1.toList == bt355.1.toList && (bt351.2.1.toList == bt355.2.1.toList)) = true then (if bt351.2.2 = bt355.2.2 then ((r21_Same.f k bt359.1 bt359.2.1 bt359.2.2.1 bt359.2.2.2.1 bt367.1 bt367.2.1 bt367.2.2.1 bt367.2.2.2.1).bind fun t375 => (if t375 = true then (if bt359.2.2.2.2 = bt367.2.2.2.2 then ((w21_lives.f k).bind fun t376 => (some t376)) else (none)) else (none))) else (none)) else (none)) else (none)) else (none)))))))) = some r := by rw [if_pos rfl] at H; exact H
  clear H
  have H := H1
  clear H1
  replace H := Option.bind_eq_some_iff.mp H
  obtain ⟨⟨t347, t348⟩, A50, H⟩ := H
  replace H : ((r21_Key.f k a0_0 a0_1 a0_2 l0_3).bind fun bt349 => ((layout_Span.f k a0_0 a0_1 a0_2 l0_3).bind fun bt351 => ((r21_Span.f k a0_0 a0_1 a0_2 l0_3).bind fun bt355 => ((layout_Parse.f k a1).bind fun bt359 => ((r21_Parse.f k a1).bind fun bt367 => (if t347.toList = bt349.1.toList then (if t348 = bt349.2 then (if (bt351.1.toList == bt355.1.toList && (bt351.2.1.toList == bt355.2.1.toList)) = true then (if bt351.2.2 = bt355.2.2 then ((r21_Same.f k bt359.1 bt359.2.1 bt359.2.2.1 bt359.2.2.2.1 bt367.1 bt367.2.1 bt367.2.2.1 bt367.2.2.2.1).bind fun t375 => (if t375 = true then (if bt359.2.2.2.2 = bt367.2.2.2.2 then ((w21_lives.f k).bind fun t376 => (some t376)) else (none)) else (none))) else (none)) else (none)) else (none)) else (none))))))) = some r := H
  have A5 := Aside0.mk A50
  clear A50
  replace H := Option.bind_eq_some_iff.mp H
  obtain ⟨⟨t349, t350⟩, A60, H⟩ := H
  replace H : ((layout_Span.f k a0_0 a0_1 a0_2 l0_3).bind fun bt351 => ((r21_Span.f k a0_0 a0_1 a0_2 l0_3).bind fun bt355 => ((layout_Parse.f k a1).bind fun bt359 => ((r21_Parse.f k a1).bind fun bt367 => (if t347.toList = t349.toList then (if t348 = t350 then (if (bt351.1.toList == bt355.1.toList && (bt351.2.1.toList == bt355.2.1.toList)) = true then (if bt351.2.2 = bt355.2.2 then ((r21_Same.f k bt359.1 bt359.2.1 bt359.2.2.1 bt359.2.2.2.1 bt367.1 bt367.2.1 bt367.2.2.1 bt367.2.2.2.1).bind fun t375 => (if t375 = true then (if bt359.2.2.2.2 = bt367.2.2.2.2 then ((w21_lives.f k).bind fun t376 => (some t376)) else (none)) else (none))) else (none)) else (none)) else (none)) else (none)))))) = some r := H
  have A6 := Aside0.mk A60
  clear A60
  replace H := Option.bind_eq_some_iff.mp H
  obtain ⟨⟨t351, t352, t353⟩, A70, H⟩ := H
  replace H : ((r21_Span.f k a0_0 a0_1 a0_2 l0_3).bind fun bt355 => ((layout_Parse.f k a1).bind fun bt359 => ((r21_Parse.f k a1).bind fun bt367 => (if t347.toList = t349.toList then (if t348 = t350 then (if (t351.toList == bt355.1.toList && (t352.toList == bt355.2.1.toList)) = true then (if t353 = bt355.2.2 then ((r21_Same.f k bt359.1 bt359.2.1 bt359.2.2.1 bt359.2.2.2.1 bt367.1 bt367.2.1 bt367.2.2.1 bt367.2.2.2.1).bind fun t375 => (if t375 = true then (if bt359.2.2.2.2 = bt367.2.2.2.2 then ((w21_lives.f k).bind fun t376 => (some t376)) else (none)) else (none))) else (none)) else (none)) else (none)) else (none))))) = some r := H
  have A7 := Aside0.mk A70
  clear A70
  replace H := Option.bind_eq_some_iff.mp H
  obtain ⟨⟨t355, t356, t357⟩, A80, H⟩ := H
  replace H : ((layout_Parse.f k a1).bind fun bt359 => ((r21_Parse.f k a1).bind fun bt367 => (if t347.toList = t349.toList then (if t348 = t350 then (if (t351.toList == t355.toList && (t352.toList == t356.toList)) = true then (if t353 = t357 then ((r21_Same.f k bt359.1 bt359.2.1 bt359.2.2.1 bt359.2.2.2.1 bt367.1 bt367.2.1 bt367.2.2.1 bt367.2.2.2.1).bind fun t375 => (if t375 = true then (if bt359.2.2.2.2 = bt367.2.2.2.2 then ((w21_lives.f k).bind fun t376 => (some t376)) else (none)) else (none))) else (none)) else (none)) else (none)) else (none)))) = some r := H
  have A8 := Aside0.mk A80
  clear A80
  replace H := Option.bind_eq_some_iff.mp H
  obtain ⟨⟨t359, t360, t361, t362, t365⟩, A90, H⟩ := H
  replace H : ((r21_Parse.f k a1).bind fun bt367 => (if t347.toList = t349.toList then (if t348 = t350 then (if (t351.toList == t355.toList && (t352.toList == t356.toList)) = true then (if t353 = t357 then ((r21_Same.f k t359 t360 t361 t362 bt367.1 bt367.2.1 bt367.2.2.1 bt367.2.2.2.1).bind fun t375 => (if t375 = true then (if t365 = bt367.2.2.2.2 then ((w21_lives.f k).bind fun t376 => (some t376)) else (none)) else (none))) else (none)) else (none)) else (none)) else (none))) = some r := H
  have A9 := Aside0.mk A90
  clear A90
  replace H := Option.bind_eq_some_iff.mp H
  obtain ⟨⟨t367, t368, t369, t370, t373⟩, A100, H⟩ := H
  replace H : (if t347.toList = t349.toList then (if t348 = t350 then (if (t351.toList == t355.toList && (t352.toList == t356.toList)) = true then (if t353 = t357 then ((r21_Same.f k t359 t360 t361 t362 t367 t368 t369 t370).bind fun t375 => (if t375 = true then (if t365 = t373 then ((w21_lives.f k).bind fun t376 => (some t376)) else (none)) else (none))) else (none)) else (none)) else (none)) else (none)) = some r := H
  have A10 := Aside0.mk A100
  clear A100
  by_cases c11 : t347.toList = t349.toList
  ·rw [if_pos c11] at H
   have c11b0 : (t347.toList == t349.toList) = true := beq_iff_eq.mpr c11
   have c11b1 : (t347.toList != t349.toList) = false := bne_eq_false_iff_eq.mpr c11
   clear c11
   by_cases c12 : t348 = t350
   ·rw [if_pos c12] at H
    have c12b0 : (t348 == t350) = true := beq_iff_eq.mpr c12
    have c12b1 : (t348 != t350) = false := bne_eq_false_iff_eq.mpr c12
    clear c12
    by_cases c13 : (t351.toList == t355.toList && (t352.toList == t356.toList)) = true
    ·rw [if_pos c13] at H
     have c13b0 : (t351.toList == t355.toList && (t352.toList == t356.toList)) = true := c13
     (try (have c13b1 : decide (t351.toList = t355.toList && (t352.toList == t356.toList)) = true := by simpa using c13))
     (try (have c13b2 : (t351.toList == t355.toList && (t352.toList == t356.toList)) = true := by simpa using c13))
     clear c13
     by_cases c14 : t353 = t357
     ·rw [if_pos c14] at H
      have c14b0 : (t353 == t357) = true := beq_iff_eq.mpr c14
      have c14b1 : (t353 != t357) = false := bne_eq_false_iff_eq.mpr c14
      clear c14
      replace H := Option.bind_eq_some_iff.mp H
      obtain ⟨t375, A150, H⟩ := H
      replace H : (if t375 = true then (if t365 = t373 then ((w21_lives.f k).bind fun t376 => (some t376)) else (none)) else (none)) = some r := H
      have A15 := Aside0.mk A150
      clear A150
      by_cases c16 : t375 = true
      ·subst c16
       have H1 : (if t365 = t373 then ((w21_lives.f k).bind fun t376 => (some t376)) else (none)) = some r := by rw [if_pos rfl] at H; exact H
       clear H
       have H := H1
       clear H1
       by_cases c17 : t365 = t373
       ·rw [if_pos c17] at H
        have c17b0 : (t365 == t373) = true := beq_iff_eq.mpr c17
        have c17b1 : (t365 != t373) = false := bne_eq_false_iff_eq.mpr c17
        clear c17
        replace H := Option.bind_eq_some_iff.mp H
        obtain ⟨t376, A180, H⟩ := H
        replace H : (some t376) = some r := H
        have A18 := Aside0.mk A180
        clear A180
        obtain rfl := Option.some.inj H
        go_enter Tryd.func6, Tryd.ntmps6
        go_wp2_with (first | ((with_reducible refine gate_dst (N := 2) rfl ?_); refine box_event ?hg (N := 2) ?hd (cs := #[.int .i64 a0_0, .string a0_1, .string a0_2, .slice A0_3 l0_3.length c0_3]) (t := 25) ?hr ?_; (case hd => rfl); (case hg => rfl); (case hr => (go_simp; done)); intro gb344 hg w19 hbox hb; have n0_ := Aside0.mk (below_step (by repeat ((with_reducible exact HB.out))) hb); have n1_ := Aside0.mk (hbox); have n2_ := Aside0.mk ((by rw [hg]; exact (below_size (by repeat ((with_reducible exact HB.out)))) : w.heap.size ≤ gb344)); have n3_ := Aside0.mk ((by rw [hg]; exact (below_size (by repeat ((with_reducible exact HB.out)))) : w.heap.size ≤ gb344)); clear HB; have HB := n0_; have BK344 := n1_; have GW344 := n2_; have GE344 := n3_; clear n0_ n1_ n2_ n3_; clear hb hbox hg; have hcz20_0 : w19.cell? ⟨gb344, 0, none⟩ = some (.int .i64 a0_0) := (blk_cell BK344.out 0).trans rfl; have hcz20_1 : w19.cell? ⟨gb344, 1, none⟩ = some (.string a0_1) := (blk_cell BK344.out 1).trans rfl; have hcz20_2 : w19.cell? ⟨gb344, 2, none⟩ = some (.string a0_2) := (blk_cell BK344.out 2).trans rfl; have hcz20_3 : w19.cell? ⟨gb344, 3, none⟩ = some (.slice A0_3 l0_3.length c0_3) := (blk_cell BK344.out 3).trans rfl; have hfz20_0 := blk_frozen BK344.out 0; have hfz20_1 := blk_frozen BK344.out 1; have hfz20_2 := blk_frozen BK344.out 2; have hfz20_3 := blk_frozen BK344.out 3) | ((with_reducible refine gate_callee (f := 8) rfl ?_); refine goesL_ (some 18) rfl rfl Tryd.func8 (by kernel_rfl) rfl #[.agg #[.int .i64 a0_0, .string a0_1, .string a0_2, .slice A0_3 l0_3.length c0_3]] rfl (by (try simp only [List.map_toArray, List.map_cons, List.map_nil]); rfl) ?_; (with_reducible refine (w21_few.calls a0_0 a0_1 a0_2 _ _ l0_3 true _ ?side1 ?side2 A3.out).mono ?_); (case side1 => repeat (exact (Kd.C_below HR0_3.out HB.out))); (case side2 => exact HC0_3.out); rintro e w21 ⟨rfl, hb⟩; refine ⟨_, rfl, ?_⟩; have n0_ := Aside0.mk (blk_below (g := gb344) (o := .cells #[.int .i64 a0_0, .string a0_1, .string a0_2, .slice A0_3 l0_3.length c0_3] 25 (0, 0)) (by (with_reducible repeat (refine blk_drew ?_)); exact BK344.out) hb); have n1_ := Aside0.mk (below_step (by repeat ((with_reducible exact HB.out))) hb); clear BK344; clear HB; have BK344 := n0_; have HB := n1_; clear n0_ n1_; (try clear hb); (try clear hb2); (try clear hk); (try clear hi); have hcz22_0 : w21.cell? ⟨gb344, 0, none⟩ = some (.int .i64 a0_0) := (blk_cell BK344.out 0).trans rfl; have hcz22_1 : w21.cell? ⟨gb344, 1, none⟩ = some (.string a0_1) := (blk_cell BK344.out 1).trans rfl; have hcz22_2 : w21.cell? ⟨gb344, 2, none⟩ = some (.string a0_2) := (blk_cell BK344.out 2).trans rfl; have hcz22_3 : w21.cell? ⟨gb344, 3, none⟩ = some (.slice A0_3 l0_3.length c0_3) := (blk_cell BK344.out 3).trans rfl; have hfz22_0 := blk_frozen BK344.out 0; have hfz22_1 := blk_frozen BK344.out 1; have hfz22_2 := blk_frozen BK344.out 2; have hfz22_3 := blk_frozen BK344.out 3) | ((with_reducible refine gate_callee (f := 11) rfl ?_); refine goesL_ (some 23) rfl rfl Tryd.func11 (by kernel_rfl) rfl #[.agg #[.int .i64 a0_0, .string a0_1, .string a0_2, .slice A0_3 l0_3.length c0_3]] rfl (by (try simp only [List.map_toArray, List.map_cons, List.map_nil]); rfl) ?_; (with_reducible refine (layout_Key.calls k a0_0 a0_1 a0_2 _ _ l0_3 t347 t348 _ ?side1 ?side2 A5.out).mono ?_); (case side1 => repeat (exact (Kd.C_below HR0_3.out HB.out))); (case side2 => exact HC0_3.out); rintro e w23 ⟨rfl, hb⟩; refine ⟨_, rfl, ?_⟩; have n0_ := Aside0.mk (blk_below (g := gb344) (o := .cells #[.int .i64 a0_0, .string a0_1, .string a0_2, .slice A0_3 l0_3.length c0_3] 25 (0, 0)) (by (with_reducible repeat (refine blk_drew ?_)); exact BK344.out) hb); have n1_ := Aside0.mk (below_step (by repeat ((with_reducible exact HB.out))) hb); clear BK344; clear HB; have BK344 := n0_; have HB := n1_; clear n0_ n1_; (try clear hb); (try clear hb2); (try clear hk); (try clear hi); have hcz24_0 : w23.cell? ⟨gb344, 0, none⟩ = some (.int .i64 a0_0) := (blk_cell BK344.out 0).trans rfl; have hcz24_1 : w23.cell? ⟨gb344, 1, none⟩ = some (.string a0_1) := (blk_cell BK344.out 1).trans rfl; have hcz24_2 : w23.cell? ⟨gb344, 2, none⟩ = some (.string a0_2) := (blk_cell BK344.out 2).trans rfl; have hcz24_3 : w23.cell? ⟨gb344, 3, none⟩ = some (.slice A0_3 l0_3.length c0_3) := (blk_cell BK344.out 3).trans rfl; have hfz24_0 := blk_frozen BK344.out 0; have hfz24_1 := blk_frozen BK344.out 1; have hfz24_2 := blk_frozen BK344.out 2; have hfz24_3 := blk_frozen BK344.out 3) | ((with_reducible refine gate_callee (f := 21) rfl ?_); refine goesL_ (some 28) rfl rfl Tryd.func21 (by kernel_rfl) rfl #[.agg #[.int .i64 a0_0, .string a0_1, .string a0_2, .slice A0_3 l0_3.length c0_3]] rfl (by (try simp only [List.map_toArray, List.map_cons, List.map_nil]); rfl) ?_; (with_reducible refine (r21_Key.calls k a0_0 a0_1 a0_2 _ _ l0_3 t349 t350 _ ?side1 ?side2 A6.out).mono ?_); (case side1 => repeat (exact (Kd.C_below HR0_3.out HB.out))); (case side2 => exact HC0_3.out); rintro e w25 ⟨rfl, hb⟩; refine ⟨_, rfl, ?_⟩; have n0_ := Aside0.mk (blk_below (g := gb344) (o := .cells #[.int .i64 a0_0, .string a0_1, .string a0_2, .slice A0_3 l0_3.length c0_3] 25 (0, 0)) (by (with_reducible repeat (refine blk_drew ?_)); exact BK344.out) hb); have n1_ := Aside0.mk (below_step (by repeat ((with_reducible exact HB.out))) hb); clear BK344; clear HB; have BK344 := n0_; have HB := n1_; clear n0_ n1_; (try clear hb); (try clear hb2); (try clear hk); (try clear hi); have hcz26_0 : w25.cell? ⟨gb344, 0, none⟩ = some (.int .i64 a0_0) := (blk_cell BK344.out 0).trans rfl; have hcz26_1 : w25.cell? ⟨gb344, 1, none⟩ = some (.string a0_1) := (blk_cell BK344.out 1).trans rfl; have hcz26_2 : w25.cell? ⟨gb344, 2, none⟩ = some (.string a0_2) := (blk_cell BK344.out 2).trans rfl; have hcz26_3 : w25.cell? ⟨gb344, 3, none⟩ = some (.slice A0_3 l0_3.length c0_3) := (blk_cell BK344.out 3).trans rfl; have hfz26_0 := blk_frozen BK344.out 0; have hfz26_1 := blk_frozen BK344.out 1; have hfz26_2 := blk_frozen BK344.out 2; have hfz26_3 := blk_frozen BK344.out 3) | ((with_reducible refine gate_callee (f := 10) rfl ?_); refine goesL_ (some 33) rfl rfl Tryd.func10 (by kernel_rfl) rfl #[.agg #[.int .i64 a0_0, .string a0_1, .string a0_2, .slice A0_3 l0_3.length c0_3]] rfl (by (try simp only [List.map_toArray, List.map_cons, List.map_nil]); rfl) ?_; (with_reducible refine (layout_Span.calls k a0_0 a0_1 a0_2 _ _ l0_3 t351 t352 t353 _ ?side1 ?side2 A7.out).mono ?_); (case side1 => repeat (exact (Kd.C_below HR0_3.out HB.out))); (case side2 => exact HC0_3.out); rintro e w27 ⟨rfl, hb⟩; refine ⟨_, rfl, ?_⟩; have n0_ := Aside0.mk (blk_below (g := gb344) (o := .cells #[.int .i64 a0_0, .string a0_1, .string a0_2, .slice A0_3 l0_3.length c0_3] 25 (0, 0)) (by (with_reducible repeat (refine blk_drew ?_)); exact BK344.out) hb); have n1_ := Aside0.mk (below_step (by repeat ((with_reducible exact HB.out))) hb); clear BK344; clear HB; have BK344 := n0_; have HB := n1_; clear n0_ n1_; (try clear hb); (try clear hb2); (try clear hk); (try clear hi)) | ((with_reducible refine gate_dst (N := 9) rfl ?_); refine box_event ?hg (N := 9) ?hd (cs := #[.string (⟨#[]⟩ : ByteArray), .string (⟨#[]⟩ : ByteArray)]) (t := 29) ?hr ?_; (case hd => rfl); (case hg => rfl); (case hr => (go_simp; done)); intro gb354 hg w28 hbox hb; have n0_ := Aside0.mk (blk_below (g := gb344) (o := .cells #[.int .i64 a0_0, .string a0_1, .string a0_2, .slice A0_3 l0_3.length c0_3] 25 (0, 0)) (by (with_reducible repeat (refine blk_drew ?_)); exact BK344.out) hb); have n1_ := Aside0.mk (below_step (by repeat ((with_reducible exact HB.out))) hb); have n2_ := Aside0.mk (hbox); have n3_ := Aside0.mk ((by rw [hg]; exact (below_size (by repeat ((with_reducible exact HB.out)))) : w.heap.size ≤ gb354)); have n4_ := Aside0.mk ((by rw [hg]; exact (below_size (by repeat ((with_reducible exact HB.out)))) : w.heap.size ≤ gb354)); have n5_ := Aside0.mk ((by rw [hg]; exact Nat.ne_of_lt (blk_lt (g := gb344) (o := .cells #[.int .i64 a0_0, .string a0_1, .string a0_2, .slice A0_3 l0_3.length c0_3] 25 (0, 0)) (by (with_reducible repeat (refine blk_drew ?_)); exact BK344.out)) : gb344 ≠ gb354)); have n6_ := Aside0.mk ((by rw [hg]; exact Nat.ne_of_gt (blk_lt (g := gb344) (o := .cells #[.int .i64 a0_0, .string a0_1, .string a0_2, .slice A0_3 l0_3.length c0_3] 25 (0, 0)) (by (with_reducible repeat (refine blk_drew ?_)); exact BK344.out)) : gb354 ≠ gb344)); clear BK344; clear HB; have BK344 := n0_; have HB := n1_; have BK354 := n2_; have GW354 := n3_; have GE354 := n4_; have NB344_354 := n5_; have NB354_344 := n6_; clear n0_ n1_ n2_ n3_ n4_ n5_ n6_; clear hb hbox hg; have hnb29 := NB354_344.out; have hnc29 := NB344_354.out; have hcz30_0 : w28.cell? ⟨gb354, 0, none⟩ = some (.string (⟨#[]⟩ : ByteArray)) := (blk_cell BK354.out 0).trans rfl; have hcz30_1 : w28.cell? ⟨gb354, 1, none⟩ = some (.string (⟨#[]⟩ : ByteArray)) := (blk_cell BK354.out 1).trans rfl; have hfz30_0 := blk_frozen BK354.out 0; have hfz30_1 := blk_frozen BK354.out 1; have hcz31_0 : w28.cell? ⟨gb344, 0, none⟩ = some (.int .i64 a0_0) := (blk_cell BK344.out 0).trans rfl; have hcz31_1 : w28.cell? ⟨gb344, 1, none⟩ = some (.string a0_1) := (blk_cell BK344.out 1).trans rfl; have hcz31_2 : w28.cell? ⟨gb344, 2, none⟩ = some (.string a0_2) := (blk_cell BK344.out 2).trans rfl; have hcz31_3 : w28.cell? ⟨gb344, 3, none⟩ = some (.slice A0_3 l0_3.length c0_3) := (blk_cell BK344.out 3).trans rfl; have hfz31_0 := blk_frozen BK344.out 0; have hfz31_1 := blk_frozen BK344.out 1; have hfz31_2 := blk_frozen BK344.out 2; have hfz31_3 := blk_frozen BK344.out 3) | ((with_reducible refine gate_callee (f := 22) rfl ?_); refine goesL_ (some 38) rfl rfl Tryd.func22 (by kernel_rfl) rfl #[.agg #[.int .i64 a0_0, .string a0_1, .string a0_2, .slice A0_3 l0_3.length c0_3]] rfl (by (try simp only [List.map_toArray, List.map_cons, List.map_nil]); rfl) ?_; (with_reducible refine (r21_Span.calls k a0_0 a0_1 a0_2 _ _ l0_3 t355 t356 t357 _ ?side1 ?side2 A8.out).mono ?_); (case side1 => exact Kd.C_below HR0_3.out (by repeat ((with_reducible first | exact HB.out | refine below_set ?_ GE354.out)))); (case side2 => exact HC0_3.out); rintro e w32 ⟨rfl, hb⟩; refine ⟨_, rfl, ?_⟩; have n0_ := Aside0.mk (blk_below (g := gb344) (o := .cells #[.int .i64 a0_0, .string a0_1, .string a0_2, .slice A0_3 l0_3.length c0_3] 25 (0, 0)) (by (with_reducible repeat (refine blk_drew ?_)); refine blk_far ?_ NB344_354.out _; (with_reducible repeat (refine blk_drew ?_)); refine blk_far ?_ NB344_354.out _; (with_reducible repeat (refine blk_drew ?_)); exact BK344.out) hb); have n1_ := Aside0.mk (blk_below (g := gb354) (o := .cells #[.string t351, .string t352] 29 (0, 0)) (by (with_reducible repeat (refine blk_drew ?_)); refine blk_put (cs := #[.string t351, .string (⟨#[]⟩ : ByteArray)]) ?_ 1 _ rfl; (with_reducible repeat (refine blk_drew ?_)); refine blk_put (cs := #[.string (⟨#[]⟩ : ByteArray), .string (⟨#[]⟩ : ByteArray)]) ?_ 0 _ rfl; (with_reducible repeat (refine blk_drew ?_)); exact BK354.out) hb); have n2_ := Aside0.mk (below_step (by repeat ((with_reducible first | exact HB.out | refine below_set ?_ GE354.out))) hb); clear BK344; clear BK354; clear HB; have BK344 := n0_; have BK354 := n1_; have HB := n2_; clear n0_ n1_ n2_; (try clear hb); (try clear hb2); (try clear hk); (try clear hi)) | ((with_reducible refine gate_dst (N := 11) rfl ?_); refine box_event ?hg (N := 11) ?hd (cs := #[.string (⟨#[]⟩ : ByteArray), .string (⟨#[]⟩ : ByteArray)]) (t := 29) ?hr ?_; (case hd => rfl); (case hg => rfl); (case hr => (go_simp; done)); intro gb358 hg w33 hbox hb; have n0_ := Aside0.mk (blk_below (g := gb344) (o := .cells #[.int .i64 a0_0, .string a0_1, .string a0_2, .slice A0_3 l0_3.length c0_3] 25 (0, 0)) (by (with_reducible repeat (refine blk_drew ?_)); exact BK344.out) hb); have n1_ := Aside0.mk (blk_below (g := gb354) (o := .cells #[.string t351, .string t352] 29 (0, 0)) (by (with_reducible repeat (refine blk_drew ?_)); exact BK354.out) hb); have n2_ := Aside0.mk (below_step (by repeat ((with_reducible exact HB.out))) hb); have n3_ := Aside0.mk (hbox); have n4_ := Aside0.mk ((by rw [hg]; exact (below_size (by repeat ((with_reducible exact HB.out)))) : w.heap.size ≤ gb358)); have n5_ := Aside0.mk ((by rw [hg]; exact (below_size (by repeat ((with_reducible exact HB.out)))) : w.heap.size ≤ gb358)); have n6_ := Aside0.mk ((by rw [hg]; exact Nat.ne_of_lt (blk_lt (g := gb344) (o := .cells #[.int .i64 a0_0, .string a0_1, .string a0_2, .slice A0_3 l0_3.length c0_3] 25 (0, 0)) (by (with_reducible repeat (refine blk_drew ?_)); exact BK344.out)) : gb344 ≠ gb358)); have n7_ := Aside0.mk ((by rw [hg]; exact Nat.ne_of_gt (blk_lt (g := gb344) (o := .cells #[.int .i64 a0_0, .string a0_1, .string a0_2, .slice A0_3 l0_3.length c0_3] 25 (0, 0)) (by (with_reducible repeat (refine blk_drew ?_)); exact BK344.out)) : gb358 ≠ gb344)); have n8_ := Aside0.mk ((by rw [hg]; exact Nat.ne_of_lt (blk_lt (g := gb354) (o := .cells #[.string t351, .string t352] 29 (0, 0)) (by (with_reducible repeat (refine blk_drew ?_)); exact BK354.out)) : gb354 ≠ gb358)); have n9_ := Aside0.mk ((by rw [hg]; exact Nat.ne_of_gt (blk_lt (g := gb354) (o := .cells #[.string t351, .string t352] 29 (0, 0)) (by (with_reducible repeat (refine blk_drew ?_)); exact BK354.out)) : gb358 ≠ gb354)); clear BK344; clear BK354; clear HB; have BK344 := n0_; have BK354 := n1_; have HB := n2_; have BK358 := n3_; have GW358 := n4_; have GE358 := n5_; have NB344_358 := n6_; have NB358_344 := n7_; have NB354_358 := n8_; have NB358_354 := n9_; clear n0_ n1_ n2_ n3_ n4_ n5_ n6_ n7_ n8_ n9_; clear hb hbox hg; have hnb34 := NB358_344.out; have hnc34 := NB344_358.out; have hnb35 := NB358_354.out; have hnc35 := NB354_358.out; have hcz36_0 : w33.cell? ⟨gb358, 0, none⟩ = some (.string (⟨#[]⟩ : ByteArray)) := (blk_cell BK358.out 0).trans rfl; have hcz36_1 : w33.cell? ⟨gb358, 1, none⟩ = some (.string (⟨#[]⟩ : ByteArray)) := (blk_cell BK358.out 1).trans rfl; have hfz36_0 := blk_frozen BK358.out 0; have hfz36_1 := blk_frozen BK358.out 1) | ((with_reducible refine gate_callee (f := 23) rfl ?_); refine goesL_ (some 43) rfl rfl Tryd.func23 (by kernel_rfl) rfl #[.string a1] rfl (by (try simp only [List.map_toArray, List.map_cons, List.map_nil]); rfl) ?_; (with_reducible refine (layout_Parse.calls k a1 t359 t360 t361 t362 t365 _ A9.out).mono ?_); rintro e w37 ⟨v363, rfl, ho0, hb⟩; refine ⟨_, rfl, ?_⟩; have n0_ := Aside0.mk (Kd.R_lower ho0 (below_size (by repeat ((with_reducible first | exact HB.out | refine below_set ?_ GE358.out))))); have n1_ := Aside0.mk (blk_below (g := gb344) (o := .cells #[.int .i64 a0_0, .string a0_1, .string a0_2, .slice A0_3 l0_3.length c0_3] 25 (0, 0)) (by (with_reducible repeat (refine blk_drew ?_)); refine blk_far ?_ NB344_358.out _; (with_reducible repeat (refine blk_drew ?_)); refine blk_far ?_ NB344_358.out _; (with_reducible repeat (refine blk_drew ?_)); exact BK344.out) hb); have n2_ := Aside0.mk (blk_below (g := gb354) (o := .cells #[.string t351, .string t352] 29 (0, 0)) (by (with_reducible repeat (refine blk_drew ?_)); refine blk_far ?_ NB354_358.out _; (with_reducible repeat (refine blk_drew ?_)); refine blk_far ?_ NB354_358.out _; (with_reducible repeat (refine blk_drew ?_)); exact BK354.out) hb); have n3_ := Aside0.mk (blk_below (g := gb358) (o := .cells #[.string t355, .string t356] 29 (0, 0)) (by (with_reducible repeat (refine blk_drew ?_)); refine blk_put (cs := #[.string t355, .string (⟨#[]⟩ : ByteArray)]) ?_ 1 _ rfl; (with_reducible repeat (refine blk_drew ?_)); refine blk_put (cs := #[.string (⟨#[]⟩ : ByteArray), .string (⟨#[]⟩ : ByteArray)]) ?_ 0 _ rfl; (with_reducible repeat (refine blk_drew ?_)); exact BK358.out) hb); have n4_ := Aside0.mk (below_step (by repeat ((with_reducible first | exact HB.out | refine below_set ?_ GE358.out))) hb); clear BK344; clear BK354; clear BK358; clear HB; have HO364 := n0_; have BK344 := n1_; have BK354 := n2_; have BK358 := n3_; have HB := n4_; clear n0_ n1_ n2_ n3_ n4_; (try clear hb); (try clear hb2); (try clear hk); (try clear hi); (try clear ho0)) | ((with_reducible refine gate_dst (N := 13) rfl ?_); refine box_event ?hg (N := 13) ?hd (cs := #[.int .i64 0, .string (⟨#[]⟩ : ByteArray), .string (⟨#[]⟩ : ByteArray), .slice none 0 0]) (t := 25) ?hr ?_; (case hd => rfl); (case hg => rfl); (case hr => (go_simp; done)); intro gb366 hg w38 hbox hb; have n0_ := Aside0.mk (Kd.R_below (by (with_reducible repeat (apply Kd.R_drew)); exact HO364.out) hb); have n1_ := Aside0.mk (blk_below (g := gb344) (o := .cells #[.int .i64 a0_0, .string a0_1, .string a0_2, .slice A0_3 l0_3.length c0_3] 25 (0, 0)) (by (with_reducible repeat (refine blk_drew ?_)); exact BK344.out) hb); have n2_ := Aside0.mk (blk_below (g := gb354) (o := .cells #[.string t351, .string t352] 29 (0, 0)) (by (with_reducible repeat (refine blk_drew ?_)); exact BK354.out) hb); have n3_ := Aside0.mk (blk_below (g := gb358) (o := .cells #[.string t355, .string t356] 29 (0, 0)) (by (with_reducible repeat (refine blk_drew ?_)); exact BK358.out) hb); have n4_ := Aside0.mk (below_step (by repeat ((with_reducible exact HB.out))) hb); have n5_ := Aside0.mk (hbox); have n6_ := Aside0.mk ((by rw [hg]; exact (below_size (by repeat ((with_reducible exact HB.out)))) : w.heap.size ≤ gb366)); have n7_ := Aside0.mk ((by rw [hg]; exact (below_size (by repeat ((with_reducible exact HB.out)))) : w.heap.size ≤ gb366)); have n8_ := Aside0.mk ((by rw [hg]; exact Nat.ne_of_lt (blk_lt (g := gb344) (o := .cells #[.int .i64 a0_0, .string a0_1, .string a0_2, .slice A0_3 l0_3.length c0_3] 25 (0, 0)) (by (with_reducible repeat (refine blk_drew ?_)); exact BK344.out)) : gb344 ≠ gb366)); have n9_ := Aside0.mk ((by rw [hg]; exact Nat.ne_of_gt (blk_lt (g := gb344) (o := .cells #[.int .i64 a0_0, .string a0_1, .string a0_2, .slice A0_3 l0_3.length c0_3] 25 (0, 0)) (by (with_reducible repeat (refine blk_drew ?_)); exact BK344.out)) : gb366 ≠ gb344)); have n10_ := Aside0.mk ((by rw [hg]; exact Nat.ne_of_lt (blk_lt (g := gb354) (o := .cells #[.string t351, .string t352] 29 (0, 0)) (by (with_reducible repeat (refine blk_drew ?_)); exact BK354.out)) : gb354 ≠ gb366)); have n11_ := Aside0.mk ((by rw [hg]; exact Nat.ne_of_gt (blk_lt (g := gb354) (o := .cells #[.string t351, .string t352] 29 (0, 0)) (by (with_reducible repeat (refine blk_drew ?_)); exact BK354.out)) : gb366 ≠ gb354)); have n12_ := Aside0.mk ((by rw [hg]; exact Nat.ne_of_lt (blk_lt (g := gb358) (o := .cells #[.string t355, .string t356] 29 (0, 0)) (by (with_reducible repeat (refine blk_drew ?_)); exact BK358.out)) : gb358 ≠ gb366)); have n13_ := Aside0.mk ((by rw [hg]; exact Nat.ne_of_gt (blk_lt (g := gb358) (o := .cells #[.string t355, .string t356] 29 (0, 0)) (by (with_reducible repeat (refine blk_drew ?_)); exact BK358.out)) : gb366 ≠ gb358)); clear HO364; clear BK344; clear BK354; clear BK358; clear HB; have HO364 := n0_; have BK344 := n1_; have BK354 := n2_; have BK358 := n3_; have HB := n4_; have BK366 := n5_; have GW366 := n6_; have GE366 := n7_; have NB344_366 := n8_; have NB366_344 := n9_; have NB354_366 := n10_; have NB366_354 := n11_; have NB358_366 := n12_; have NB366_358 := n13_; clear n0_ n1_ n2_ n3_ n4_ n5_ n6_ n7_ n8_ n9_ n10_ n11_ n12_ n13_; clear hb hbox hg; have hnb39 := NB366_344.out; have hnc39 := NB344_366.out; have hnb40 := NB366_354.out; have hnc40 := NB354_366.out; have hnb41 := NB366_358.out; have hnc41 := NB358_366.out; have hcz42_0 : w38.cell? ⟨gb366, 0, none⟩ = some (.int .i64 0) := (blk_cell BK366.out 0).trans rfl; have hcz42_1 : w38.cell? ⟨gb366, 1, none⟩ = some (.string (⟨#[]⟩ : ByteArray)) := (blk_cell BK366.out 1).trans rfl; have hcz42_2 : w38.cell? ⟨gb366, 2, none⟩ = some (.string (⟨#[]⟩ : ByteArray)) := (blk_cell BK366.out 2).trans rfl; have hcz42_3 : w38.cell? ⟨gb366, 3, none⟩ = some (.slice none 0 0) := (blk_cell BK366.out 3).trans rfl; have hfz42_0 := blk_frozen BK366.out 0; have hfz42_1 := blk_frozen BK366.out 1; have hfz42_2 := blk_frozen BK366.out 2; have hfz42_3 := blk_frozen BK366.out 3; obtain ⟨Ao43, co43, eo43⟩ := Kd.R_slice HO364.out; subst eo43) | ((with_reducible refine gate_callee (f := 24) rfl ?_); refine goesL_ (some 48) rfl rfl Tryd.func24 (by kernel_rfl) rfl #[.string a1] rfl (by (try simp only [List.map_toArray, List.map_cons, List.map_nil]); rfl) ?_; (with_reducible refine (r21_Parse.calls k a1 t367 t368 t369 t370 t373 _ A10.out).mono ?_); rintro e w44 ⟨v371, rfl, ho0, hb⟩; refine ⟨_, rfl, ?_⟩; have n0_ := Aside0.mk (Kd.R_elder' (by (with_reducible repeat (apply Kd.R_drew)); exact (Kd.R_mono (Kd.R_far (p := ⟨gb366, 3, none⟩) (Kd.R_far (p := ⟨gb366, 2, none⟩) (Kd.R_far (p := ⟨gb366, 1, none⟩) (Kd.R_far (p := ⟨gb366, 0, none⟩) (Kd.R_types HO364.out BK366.out (by decide)) (fun _ hk => hk.2) (.int .i64 t359)) (fun _ hk => hk.2) (.string t360)) (fun _ hk => hk.2) (.string t361)) (fun _ hk => hk.2) (.slice Ao43 t362.length co43)) (fun _ h_ => h_.1))) (Kd.R_base ho0) hb); have n1_ := Aside0.mk (Kd.R_lower (Kd.R_new' ho0 (Kd.R_lt (by (with_reducible repeat (apply Kd.R_drew)); exact (Kd.R_mono (Kd.R_far (p := ⟨gb366, 3, none⟩) (Kd.R_far (p := ⟨gb366, 2, none⟩) (Kd.R_far (p := ⟨gb366, 1, none⟩) (Kd.R_far (p := ⟨gb366, 0, none⟩) (Kd.R_types HO364.out BK366.out (by decide)) (fun _ hk => hk.2) (.int .i64 t359)) (fun _ hk => hk.2) (.string t360)) (fun _ hk => hk.2) (.string t361)) (fun _ hk => hk.2) (.slice Ao43 t362.length co43)) (fun _ h_ => h_.1))))) (below_size (by repeat ((with_reducible first | exact HB.out | refine below_set ?_ GE366.out))))); have n2_ := Aside0.mk (blk_below (g := gb344) (o := .cells #[.int .i64 a0_0, .string a0_1, .string a0_2, .slice A0_3 l0_3.length c0_3] 25 (0, 0)) (by (with_reducible repeat (refine blk_drew ?_)); refine blk_far ?_ NB344_366.out _; (with_reducible repeat (refine blk_drew ?_)); refine blk_far ?_ NB344_366.out _; (with_reducible repeat (refine blk_drew ?_)); refine blk_far ?_ NB344_366.out _; (with_reducible repeat (refine blk_drew ?_)); refine blk_far ?_ NB344_366.out _; (with_reducible repeat (refine blk_drew ?_)); exact BK344.out) hb); have n3_ := Aside0.mk (blk_below (g := gb354) (o := .cells #[.string t351, .string t352] 29 (0, 0)) (by (with_reducible repeat (refine blk_drew ?_)); refine blk_far ?_ NB354_366.out _; (with_reducible repeat (refine blk_drew ?_)); refine blk_far ?_ NB354_366.out _; (with_reducible repeat (refine blk_drew ?_)); refine blk_far ?_ NB354_366.out _; (with_reducible repeat (refine blk_drew ?_)); refine blk_far ?_ NB354_366.out _; (with_reducible repeat (refine blk_drew ?_)); exact BK354.out) hb); have n4_ := Aside0.mk (blk_below (g := gb358) (o := .cells #[.string t355, .string t356] 29 (0, 0)) (by (with_reducible repeat (refine blk_drew ?_)); refine blk_far ?_ NB358_366.out _; (with_reducible repeat (refine blk_drew ?_)); refine blk_far ?_ NB358_366.out _; (with_reducible repeat (refine blk_drew ?_)); refine blk_far ?_ NB358_366.out _; (with_reducible repeat (refine blk_drew ?_)); refine blk_far ?_ NB358_366.out _; (with_reducible repeat (refine blk_drew ?_)); exact BK358.out) hb); have n5_ := Aside0.mk (blk_below (g := gb366) (o := .cells #[.int .i64 t359, .string t360, .string t361, .slice Ao43 t362.length co43] 25 (0, 0)) (by (with_reducible repeat (refine blk_drew ?_)); refine blk_put (cs := #[.int .i64 t359, .string t360, .string t361, .slice none 0 0]) ?_ 3 _ rfl; (with_reducible repeat (refine blk_drew ?_)); refine blk_put (cs := #[.int .i64 t359, .string t360, .string (⟨#[]⟩ : ByteArray), .slice none 0 0]) ?_ 2 _ rfl; (with_reducible repeat (refine blk_drew ?_)); refine blk_put (cs := #[.int .i64 t359, .string (⟨#[]⟩ : ByteArray), .string (⟨#[]⟩ : ByteArray), .slice none 0 0]) ?_ 1 _ rfl; (with_reducible repeat (refine blk_drew ?_)); refine blk_put (cs := #[.int .i64 0, .string (⟨#[]⟩ : ByteArray), .string (⟨#[]⟩ : ByteArray), .slice none 0 0]) ?_ 0 _ rfl; (with_reducible repeat (refine blk_drew ?_)); exact BK366.out) hb); have n6_ := Aside0.mk (below_step (by repeat ((with_reducible first | exact HB.out | refine below_set ?_ GE366.out))) hb); clear HO364; clear BK344; clear BK354; clear BK358; clear BK366; clear HB; have HO364 := n0_; have HO372 := n1_; have BK344 := n2_; have BK354 := n3_; have BK358 := n4_; have BK366 := n5_; have HB := n6_; clear n0_ n1_ n2_ n3_ n4_ n5_ n6_; (try clear hb); (try clear hb2); (try clear hk); (try clear hi); (try clear ho0)) | ((with_reducible refine gate_dst (N := 15) rfl ?_); refine box_event ?hg (N := 15) ?hd (cs := #[.int .i64 0, .string (⟨#[]⟩ : ByteArray), .string (⟨#[]⟩ : ByteArray), .slice none 0 0]) (t := 25) ?hr ?_; (case hd => rfl); (case hg => rfl); (case hr => (go_simp; done)); intro gb374 hg w45 hbox hb; have n0_ := Aside0.mk (Kd.R_below (by (with_reducible repeat (apply Kd.R_drew)); exact HO364.out) hb); have n1_ := Aside0.mk (Kd.R_below (by (with_reducible repeat (apply Kd.R_drew)); exact HO372.out) hb); have n2_ := Aside0.mk (blk_below (g := gb344) (o := .cells #[.int .i64 a0_0, .string a0_1, .string a0_2, .slice A0_3 l0_3.length c0_3] 25 (0, 0)) (by (with_reducible repeat (refine blk_drew ?_)); exact BK344.out) hb); have n3_ := Aside0.mk (blk_below (g := gb354) (o := .cells #[.string t351, .string t352] 29 (0, 0)) (by (with_reducible repeat (refine blk_drew ?_)); exact BK354.out) hb); have n4_ := Aside0.mk (blk_below (g := gb358) (o := .cells #[.string t355, .string t356] 29 (0, 0)) (by (with_reducible repeat (refine blk_drew ?_)); exact BK358.out) hb); have n5_ := Aside0.mk (blk_below (g := gb366) (o := .cells #[.int .i64 t359, .string t360, .string t361, .slice Ao43 t362.length co43] 25 (0, 0)) (by (with_reducible repeat (refine blk_drew ?_)); exact BK366.out) hb); have n6_ := Aside0.mk (below_step (by repeat ((with_reducible exact HB.out))) hb); have n7_ := Aside0.mk (hbox); have n8_ := Aside0.mk ((by rw [hg]; exact (below_size (by repeat ((with_reducible exact HB.out)))) : w.heap.size ≤ gb374)); have n9_ := Aside0.mk ((by rw [hg]; exact (below_size (by repeat ((with_reducible exact HB.out)))) : w.heap.size ≤ gb374)); have n10_ := Aside0.mk ((by rw [hg]; exact Nat.ne_of_lt (blk_lt (g := gb344) (o := .cells #[.int .i64 a0_0, .string a0_1, .string a0_2, .slice A0_3 l0_3.length c0_3] 25 (0, 0)) (by (with_reducible repeat (refine blk_drew ?_)); exact BK344.out)) : gb344 ≠ gb374)); have n11_ := Aside0.mk ((by rw [hg]; exact Nat.ne_of_gt (blk_lt (g := gb344) (o := .cells #[.int .i64 a0_0, .string a0_1, .string a0_2, .slice A0_3 l0_3.length c0_3] 25 (0, 0)) (by (with_reducible repeat (refine blk_drew ?_)); exact BK344.out)) : gb374 ≠ gb344)); have n12_ := Aside0.mk ((by rw [hg]; exact Nat.ne_of_lt (blk_lt (g := gb354) (o := .cells #[.string t351, .string t352] 29 (0, 0)) (by (with_reducible repeat (refine blk_drew ?_)); exact BK354.out)) : gb354 ≠ gb374)); have n13_ := Aside0.mk ((by rw [hg]; exact Nat.ne_of_gt (blk_lt (g := gb354) (o := .cells #[.string t351, .string t352] 29 (0, 0)) (by (with_reducible repeat (refine blk_drew ?_)); exact BK354.out)) : gb374 ≠ gb354)); have n14_ := Aside0.mk ((by rw [hg]; exact Nat.ne_of_lt (blk_lt (g := gb358) (o := .cells #[.string t355, .string t356] 29 (0, 0)) (by (with_reducible repeat (refine blk_drew ?_)); exact BK358.out)) : gb358 ≠ gb374)); have n15_ := Aside0.mk ((by rw [hg]; exact Nat.ne_of_gt (blk_lt (g := gb358) (o := .cells #[.string t355, .string t356] 29 (0, 0)) (by (with_reducible repeat (refine blk_drew ?_)); exact BK358.out)) : gb374 ≠ gb358)); have n16_ := Aside0.mk ((by rw [hg]; exact Nat.ne_of_lt (blk_lt (g := gb366) (o := .cells #[.int .i64 t359, .string t360, .string t361, .slice Ao43 t362.length co43] 25 (0, 0)) (by (with_reducible repeat (refine blk_drew ?_)); exact BK366.out)) : gb366 ≠ gb374)); have n17_ := Aside0.mk ((by rw [hg]; exact Nat.ne_of_gt (blk_lt (g := gb366) (o := .cells #[.int .i64 t359, .string t360, .string t361, .slice Ao43 t362.length co43] 25 (0, 0)) (by (with_reducible repeat (refine blk_drew ?_)); exact BK366.out)) : gb374 ≠ gb366)); clear HO364; clear HO372; clear BK344; clear BK354; clear BK358; clear BK366; clear HB; have HO364 := n0_; have HO372 := n1_; have BK344 := n2_; have BK354 := n3_; have BK358 := n4_; have BK366 := n5_; have HB := n6_; have BK374 := n7_; have GW374 := n8_; have GE374 := n9_; have NB344_374 := n10_; have NB374_344 := n11_; have NB354_374 := n12_; have NB374_354 := n13_; have NB358_374 := n14_; have NB374_358 := n15_; have NB366_374 := n16_; have NB374_366 := n17_; clear n0_ n1_ n2_ n3_ n4_ n5_ n6_ n7_ n8_ n9_ n10_ n11_ n12_ n13_ n14_ n15_ n16_ n17_; clear hb hbox hg; have hnb46 := NB374_344.out; have hnc46 := NB344_374.out; have hnb47 := NB374_354.out; have hnc47 := NB354_374.out; have hnb48 := NB374_358.out; have hnc48 := NB358_374.out; have hnb49 := NB374_366.out; have hnc49 := NB366_374.out; have hcz50_0 : w45.cell? ⟨gb374, 0, none⟩ = some (.int .i64 0) := (blk_cell BK374.out 0).trans rfl; have hcz50_1 : w45.cell? ⟨gb374, 1, none⟩ = some (.string (⟨#[]⟩ : ByteArray)) := (blk_cell BK374.out 1).trans rfl; have hcz50_2 : w45.cell? ⟨gb374, 2, none⟩ = some (.string (⟨#[]⟩ : ByteArray)) := (blk_cell BK374.out 2).trans rfl; have hcz50_3 : w45.cell? ⟨gb374, 3, none⟩ = some (.slice none 0 0) := (blk_cell BK374.out 3).trans rfl; have hfz50_0 := blk_frozen BK374.out 0; have hfz50_1 := blk_frozen BK374.out 1; have hfz50_2 := blk_frozen BK374.out 2; have hfz50_3 := blk_frozen BK374.out 3; obtain ⟨Ao51, co51, eo51⟩ := Kd.R_slice HO372.out; subst eo51; have hcz52_0 : w45.cell? ⟨gb354, 0, none⟩ = some (.string t351) := (blk_cell BK354.out 0).trans rfl; have hcz52_1 : w45.cell? ⟨gb354, 1, none⟩ = some (.string t352) := (blk_cell BK354.out 1).trans rfl; have hfz52_0 := blk_frozen BK354.out 0; have hfz52_1 := blk_frozen BK354.out 1; have hcz53_0 : w45.cell? ⟨gb358, 0, none⟩ = some (.string t355) := (blk_cell BK358.out 0).trans rfl; have hcz53_1 : w45.cell? ⟨gb358, 1, none⟩ = some (.string t356) := (blk_cell BK358.out 1).trans rfl; have hfz53_0 := blk_frozen BK358.out 0; have hfz53_1 := blk_frozen BK358.out 1; have hcz54_0 : w45.cell? ⟨gb366, 0, none⟩ = some (.int .i64 t359) := (blk_cell BK366.out 0).trans rfl; have hcz54_1 : w45.cell? ⟨gb366, 1, none⟩ = some (.string t360) := (blk_cell BK366.out 1).trans rfl; have hcz54_2 : w45.cell? ⟨gb366, 2, none⟩ = some (.string t361) := (blk_cell BK366.out 2).trans rfl; have hcz54_3 : w45.cell? ⟨gb366, 3, none⟩ = some (.slice Ao43 t362.length co43) := (blk_cell BK366.out 3).trans rfl; have hfz54_0 := blk_frozen BK366.out 0; have hfz54_1 := blk_frozen BK366.out 1; have hfz54_2 := blk_frozen BK366.out 2; have hfz54_3 := blk_frozen BK366.out 3) | (go_at_call 25; (with_reducible refine (r21_Same.calls k t359 t360 t361 _ _ t362 t367 t368 t369 _ _ t370 true _ ?side1 ?side2 ?side3 ?side4 A15.out).mono ?_); (case side1 => refine (Kd.R_reads' (e := 3) (base := w.heap.size) (ok := fun k_ => (True ∧ some k_ ≠ (.slice Ao51 t370.length co51 : Value).ownBlock)) (n := t362.length) (c := co43) ?_).2.2; exact (by (with_reducible repeat (apply Kd.R_drew)); exact (Kd.R_mono (Kd.R_far (p := ⟨gb374, 3, none⟩) (Kd.R_far (p := ⟨gb374, 2, none⟩) (Kd.R_far (p := ⟨gb374, 1, none⟩) (Kd.R_far (p := ⟨gb374, 0, none⟩) (Kd.R_types HO364.out BK374.out (by decide)) (fun _ hk => hk.2) (.int .i64 t367)) (fun _ hk => hk.2) (.string t368)) (fun _ hk => hk.2) (.string t369)) (fun _ hk => hk.2) (.slice Ao51 t370.length co51)) (fun _ h_ => h_.1)))); (case side2 => exact (Kd.R_reads' HO364.out).2.1); (case side3 => refine (Kd.R_reads' (e := 3) (base := w.heap.size) (ok := fun k_ => (True ∧ some k_ ≠ (.slice Ao43 t362.length co43 : Value).ownBlock)) (n := t370.length) (c := co51) ?_).2.2; exact (by (with_reducible repeat (apply Kd.R_drew)); exact (Kd.R_mono (Kd.R_far (p := ⟨gb374, 3, none⟩) (Kd.R_far (p := ⟨gb374, 2, none⟩) (Kd.R_far (p := ⟨gb374, 1, none⟩) (Kd.R_far (p := ⟨gb374, 0, none⟩) (Kd.R_types HO372.out BK374.out (by decide)) (fun _ hk => hk.2) (.int .i64 t367)) (fun _ hk => hk.2) (.string t368)) (fun _ hk => hk.2) (.string t369)) (fun _ hk => hk.2) (.slice Ao51 t370.length co51)) (fun _ h_ => h_.1)))); (case side4 => exact (Kd.R_reads' HO372.out).2.1); rintro e w55 ⟨rfl, hb⟩; have n0_ := Aside0.mk (Kd.R_below (by (with_reducible repeat (apply Kd.R_drew)); exact (Kd.R_mono (Kd.R_far (p := ⟨gb374, 3, none⟩) (Kd.R_far (p := ⟨gb374, 2, none⟩) (Kd.R_far (p := ⟨gb374, 1, none⟩) (Kd.R_far (p := ⟨gb374, 0, none⟩) (Kd.R_types HO364.out BK374.out (by decide)) (fun _ hk => hk.2) (.int .i64 t367)) (fun _ hk => hk.2) (.string t368)) (fun _ hk => hk.2) (.string t369)) (fun _ hk => hk.2) (.slice Ao51 t370.length co51)) (fun _ h_ => h_.1))) hb); have n1_ := Aside0.mk (Kd.R_below (by (with_reducible repeat (apply Kd.R_drew)); exact (Kd.R_mono (Kd.R_far (p := ⟨gb374, 3, none⟩) (Kd.R_far (p := ⟨gb374, 2, none⟩) (Kd.R_far (p := ⟨gb374, 1, none⟩) (Kd.R_far (p := ⟨gb374, 0, none⟩) (Kd.R_types HO372.out BK374.out (by decide)) (fun _ hk => hk.2) (.int .i64 t367)) (fun _ hk => hk.2) (.string t368)) (fun _ hk => hk.2) (.string t369)) (fun _ hk => hk.2) (.slice Ao51 t370.length co51)) (fun _ h_ => h_.1))) hb); have n2_ := Aside0.mk (blk_below (g := gb344) (o := .cells #[.int .i64 a0_0, .string a0_1, .string a0_2, .slice A0_3 l0_3.length c0_3] 25 (0, 0)) (by (with_reducible repeat (refine blk_drew ?_)); refine blk_far ?_ NB344_374.out _; (with_reducible repeat (refine blk_drew ?_)); refine blk_far ?_ NB344_374.out _; (with_reducible repeat (refine blk_drew ?_)); refine blk_far ?_ NB344_374.out _; (with_reducible repeat (refine blk_drew ?_)); refine blk_far ?_ NB344_374.out _; (with_reducible repeat (refine blk_drew ?_)); exact BK344.out) hb); have n3_ := Aside0.mk (blk_below (g := gb354) (o := .cells #[.string t351, .string t352] 29 (0, 0)) (by (with_reducible repeat (refine blk_drew ?_)); refine blk_far ?_ NB354_374.out _; (with_reducible repeat (refine blk_drew ?_)); refine blk_far ?_ NB354_374.out _; (with_reducible repeat (refine blk_drew ?_)); refine blk_far ?_ NB354_374.out _; (with_reducible repeat (refine blk_drew ?_)); refine blk_far ?_ NB354_374.out _; (with_reducible repeat (refine blk_drew ?_)); exact BK354.out) hb); have n4_ := Aside0.mk (blk_below (g := gb358) (o := .cells #[.string t355, .string t356] 29 (0, 0)) (by (with_reducible repeat (refine blk_drew ?_)); refine blk_far ?_ NB358_374.out _; (with_reducible repeat (refine blk_drew ?_)); refine blk_far ?_ NB358_374.out _; (with_reducible repeat (refine blk_drew ?_)); refine blk_far ?_ NB358_374.out _; (with_reducible repeat (refine blk_drew ?_)); refine blk_far ?_ NB358_374.out _; (with_reducible repeat (refine blk_drew ?_)); exact BK358.out) hb); have n5_ := Aside0.mk (blk_below (g := gb366) (o := .cells #[.int .i64 t359, .string t360, .string t361, .slice Ao43 t362.length co43] 25 (0, 0)) (by (with_reducible repeat (refine blk_drew ?_)); refine blk_far ?_ NB366_374.out _; (with_reducible repeat (refine blk_drew ?_)); refine blk_far ?_ NB366_374.out _; (with_reducible repeat (refine blk_drew ?_)); refine blk_far ?_ NB366_374.out _; (with_reducible repeat (refine blk_drew ?_)); refine blk_far ?_ NB366_374.out _; (with_reducible repeat (refine blk_drew ?_)); exact BK366.out) hb); have n6_ := Aside0.mk (blk_below (g := gb374) (o := .cells #[.int .i64 t367, .string t368, .string t369, .slice Ao51 t370.length co51] 25 (0, 0)) (by (with_reducible repeat (refine blk_drew ?_)); refine blk_put (cs := #[.int .i64 t367, .string t368, .string t369, .slice none 0 0]) ?_ 3 _ rfl; (with_reducible repeat (refine blk_drew ?_)); refine blk_put (cs := #[.int .i64 t367, .string t368, .string (⟨#[]⟩ : ByteArray), .slice none 0 0]) ?_ 2 _ rfl; (with_reducible repeat (refine blk_drew ?_)); refine blk_put (cs := #[.int .i64 t367, .string (⟨#[]⟩ : ByteArray), .string (⟨#[]⟩ : ByteArray), .slice none 0 0]) ?_ 1 _ rfl; (with_reducible repeat (refine blk_drew ?_)); refine blk_put (cs := #[.int .i64 0, .string (⟨#[]⟩ : ByteArray), .string (⟨#[]⟩ : ByteArray), .slice none 0 0]) ?_ 0 _ rfl; (with_reducible repeat (refine blk_drew ?_)); exact BK374.out) hb); have n7_ := Aside0.mk (below_step (by repeat ((with_reducible first | exact HB.out | refine below_set ?_ GE374.out))) hb); clear HO364; clear HO372; clear BK344; clear BK354; clear BK358; clear BK366; clear BK374; clear HB; have HO364 := n0_; have HO372 := n1_; have BK344 := n2_; have BK354 := n3_; have BK358 := n4_; have BK366 := n5_; have BK374 := n6_; have HB := n7_; clear n0_ n1_ n2_ n3_ n4_ n5_ n6_ n7_; (try clear hb); (try clear hb2); (try clear hk); (try clear hi)) | (go_at_call 9; (with_reducible refine (w21_lives.calls k  t376 _ A18.out ?sideL).mono ?_); (case sideL => exact tabs_below hL (by repeat ((with_reducible exact HB.out))) (Nat.le_refl _)); rintro e w56 ⟨rfl, hb⟩; have n0_ := Aside0.mk (Kd.R_below (by (with_reducible repeat (apply Kd.R_drew)); exact HO364.out) hb); have n1_ := Aside0.mk (Kd.R_below (by (with_reducible repeat (apply Kd.R_drew)); exact HO372.out) hb); have n2_ := Aside0.mk (blk_below (g := gb344) (o := .cells #[.int .i64 a0_0, .string a0_1, .string a0_2, .slice A0_3 l0_3.length c0_3] 25 (0, 0)) (by (with_reducible repeat (refine blk_drew ?_)); exact BK344.out) hb); have n3_ := Aside0.mk (blk_below (g := gb354) (o := .cells #[.string t351, .string t352] 29 (0, 0)) (by (with_reducible repeat (refine blk_drew ?_)); exact BK354.out) hb); have n4_ := Aside0.mk (blk_below (g := gb358) (o := .cells #[.string t355, .string t356] 29 (0, 0)) (by (with_reducible repeat (refine blk_drew ?_)); exact BK358.out) hb); have n5_ := Aside0.mk (blk_below (g := gb366) (o := .cells #[.int .i64 t359, .string t360, .string t361, .slice Ao43 t362.length co43] 25 (0, 0)) (by (with_reducible repeat (refine blk_drew ?_)); exact BK366.out) hb); have n6_ := Aside0.mk (blk_below (g := gb374) (o := .cells #[.int .i64 t367, .string t368, .string t369, .slice Ao51 t370.length co51] 25 (0, 0)) (by (with_reducible repeat (refine blk_drew ?_)); exact BK374.out) hb); have n7_ := Aside0.mk (below_step (by repeat ((with_reducible exact HB.out))) hb); clear HO364; clear HO372; clear BK344; clear BK354; clear BK358; clear BK366; clear BK374; clear HB; have HO364 := n0_; have HO372 := n1_; have BK344 := n2_; have BK354 := n3_; have BK358 := n4_; have BK366 := n5_; have BK374 := n6_; have HB := n7_; clear n0_ n1_ n2_ n3_ n4_ n5_ n6_ n7_; (try clear hb); (try clear hb2); (try clear hk); (try clear hi)))
        go_ret
        exact ⟨by rfl, by repeat ((with_reducible exact HB.out))⟩
       ·rw [if_neg c17] at H
        exact absurd H (by simp)
      ·replace c16 := Bool.eq_false_iff.mpr c16
       subst c16
       have H1 : (none) = some r := by rw [if_neg (show ¬ (false = true) by decide)] at H; exact H
       clear H
       have H := H1
       clear H1
       exact absurd H (by simp)
     ·rw [if_neg c14] at H
      exact absurd H (by simp)
    ·rw [if_neg c13] at H
     exact absurd H (by simp)
   ·rw [if_neg c12] at H
    exact absurd H (by simp)
  ·rw [if_neg c11] at H
   exact absurd H (by simp)
 ·replace c4 := Bool.eq_false_iff.mpr c4
  subst c4
  have H1 : ((w21_lives.f k).bind fun t346 => (some t346)) = some r := by rw [if_neg (show ¬ (false = true) by decide)] at H; exact H
  clear H
  have H := H1
  clear H1
  replace H := Option.bind_eq_some_iff.mp H
  obtain ⟨t346, A570, H⟩ := H
  replace H : (some t346) = some r := H
  have A57 := Aside0.mk A570
  clear A570
  obtain rfl := Option.some.inj H
  go_enter Tryd.func6, Tryd.ntmps6
  go_wp2_with (first | ((with_reducible refine gate_dst (N := 2) rfl ?_); refine box_event ?hg (N := 2) ?hd (cs := #[.int .i64 a0_0, .string a0_1, .string a0_2, .slice A0_3 l0_3.length c0_3]) (t := 25) ?hr ?_; (case hd => rfl); (case hg => rfl); (case hr => (go_simp; done)); intro gb344 hg w58 hbox hb; have n0_ := Aside0.mk (below_step (by repeat ((with_reducible exact HB.out))) hb); have n1_ := Aside0.mk (hbox); have n2_ := Aside0.mk ((by rw [hg]; exact (below_size (by repeat ((with_reducible exact HB.out)))) : w.heap.size ≤ gb344)); have n3_ := Aside0.mk ((by rw [hg]; exact (below_size (by repeat ((with_reducible exact HB.out)))) : w.heap.size ≤ gb344)); clear HB; have HB := n0_; have BK344 := n1_; have GW344 := n2_; have GE344 := n3_; clear n0_ n1_ n2_ n3_; clear hb hbox hg; have hcz59_0 : w58.cell? ⟨gb344, 0, none⟩ = some (.int .i64 a0_0) := (blk_cell BK344.out 0).trans rfl; have hcz59_1 : w58.cell? ⟨gb344, 1, none⟩ = some (.string a0_1) := (blk_cell BK344.out 1).trans rfl; have hcz59_2 : w58.cell? ⟨gb344, 2, none⟩ = some (.string a0_2) := (blk_cell BK344.out 2).trans rfl; have hcz59_3 : w58.cell? ⟨gb344, 3, none⟩ = some (.slice A0_3 l0_3.length c0_3) := (blk_cell BK344.out 3).trans rfl; have hfz59_0 := blk_frozen BK344.out 0; have hfz59_1 := blk_frozen BK344.out 1; have hfz59_2 := blk_frozen BK344.out 2; have hfz59_3 := blk_frozen BK344.out 3) | ((with_reducible refine gate_callee (f := 8) rfl ?_); refine goesL_ (some 18) rfl rfl Tryd.func8 (by kernel_rfl) rfl #[.agg #[.int .i64 a0_0, .string a0_1, .string a0_2, .slice A0_3 l0_3.length c0_3]] rfl (by (try simp only [List.map_toArray, List.map_cons, List.map_nil]); rfl) ?_; (with_reducible refine (w21_few.calls a0_0 a0_1 a0_2 _ _ l0_3 false _ ?side1 ?side2 A3.out).mono ?_); (case side1 => repeat (exact (Kd.C_below HR0_3.out HB.out))); (case side2 => exact HC0_3.out); rintro e w60 ⟨rfl, hb⟩; refine ⟨_, rfl, ?_⟩; have n0_ := Aside0.mk (blk_below (g := gb344) (o := .cells #[.int .i64 a0_0, .string a0_1, .string a0_2, .slice A0_3 l0_3.length c0_3] 25 (0, 0)) (by (with_reducible repeat (refine blk_drew ?_)); exact BK344.out) hb); have n1_ := Aside0.mk (below_step (by repeat ((with_reducible exact HB.out))) hb); clear BK344; clear HB; have BK344 := n0_; have HB := n1_; clear n0_ n1_; (try clear hb); (try clear hb2); (try clear hk); (try clear hi)) | ((with_reducible refine gate_callee (f := 9) rfl ?_); refine goesL_ (some 20) rfl rfl Tryd.func9 (by kernel_rfl) rfl #[] rfl (by (try simp only [List.map_toArray, List.map_cons, List.map_nil]); done) ?_; (with_reducible refine (w21_lives.calls k  t346 _ A57.out ?sideL).mono ?_); (case sideL => exact tabs_below hL (by repeat ((with_reducible exact HB.out))) (Nat.le_refl _)); rintro e w61 ⟨rfl, hb⟩; refine ⟨_, rfl, ?_⟩; have n0_ := Aside0.mk (blk_below (g := gb344) (o := .cells #[.int .i64 a0_0, .string a0_1, .string a0_2, .slice A0_3 l0_3.length c0_3] 25 (0, 0)) (by (with_reducible repeat (refine blk_drew ?_)); exact BK344.out) hb); have n1_ := Aside0.mk (below_step (by repeat ((with_reducible exact HB.out))) hb); clear BK344; clear HB; have BK344 := n0_; have HB := n1_; clear n0_ n1_; (try clear hb); (try clear hb2); (try clear hk); (try clear hi)))
  go_ret
  exact ⟨by rfl, by repeat ((with_reducible exact HB.out))⟩

end Go.Proofs.YtbdfmjgndeigpaaDoor.P
