-- by xprint (this session's program over the kit's printer)
import Derived.Test.YtbdfmjgndeigpaaDoorPx0
import Derived.Test.YtbdfmjgndeigpaaDoorPx3
import Derived.Test.YtbdfmjgndeigpaaDoorPx4
import Derived.Test.YtbdfmjgndeigpaaDoorPx7
namespace Go.Proofs.YtbdfmjgndeigpaaDoor.P
open Go.RowKit Go.Proofs.YtbdfmjgndeigpaaDoorW.PrintWords Go.Proofs.YtbdfmjgndeigpaaDoorW.PrintLast Go.Proofs.YtbdfmjgndeigpaaDoorW.PrintMore
attribute [local go_sem] max2_int min2_int max_two min_two max_three min_three max_four min_four   -- for this text's walks alone
set_option linter.unusedVariables false
set_option linter.unusedSimpArgs false

/-! ### layout_Span: function 10 -/
mutual
def layout_Span.j0 : Nat → Bool → Int → ByteArray → ByteArray → List Int → Option (ByteArray × ByteArray × Int)
 | 0, _, _, _, _, _ => none
 | k + 1, x28, x159000, x159001, x159002, x159003 => if x28 = true then (some ((⟨#[]⟩ : ByteArray), (⟨#[]⟩ : ByteArray), 2)) else (if x159001.toList = ([] : List UInt8) then (if x159002.toList = ([] : List UInt8) then (layout_Span.j1 k false x159000 x159001 x159002 x159003) else ((listing_Object.f x159002).bind fun t161 => (layout_Span.j1 k (t161 != 0) x159000 x159001 x159002 x159003))) else ((listing_Bucket.f k x159001).bind fun t162 => (if t162 = 0 then (if x159002.toList = ([] : List UInt8) then (layout_Span.j1 k false x159000 x159001 x159002 x159003) else ((listing_Object.f x159002).bind fun t163 => (layout_Span.j1 k (t163 != 0) x159000 x159001 x159002 x159003))) else (layout_Span.j1 k true x159000 x159001 x159002 x159003))))
def layout_Span.j1 : Nat → Bool → Int → ByteArray → ByteArray → List Int → Option (ByteArray × ByteArray × Int)
 | 0, _, _, _, _, _ => none
 | k + 1, x49, x159000, x159001, x159002, x159003 => if x49 = true then (some ((⟨#[]⟩ : ByteArray), (⟨#[]⟩ : ByteArray), 15)) else ((layout_encode.f k x159000 x159001 x159002 x159003 (([x159001, x159002] : List ByteArray))).bind fun t167 => ((tuple_Behind.f t167).bind fun t168 => (some (t167, t168, 0))))
end
def layout_Span.f (k : Nat) (a0_0 : Int) (a0_1 : ByteArray) (a0_2 : ByteArray) (l0_3 : List Int) : Option (ByteArray × ByteArray × Int) := (layout_numbers.f k a0_0 a0_1 a0_2 l0_3).bind fun t160 => (if t160 = true then (if a0_1.toList = ([] : List UInt8) then (if a0_2.toList = ([] : List UInt8) then (layout_Span.j0 k (decide ((l0_3.length : Int) > 0)) a0_0 a0_1 a0_2 l0_3) else (layout_Span.j0 k true a0_0 a0_1 a0_2 l0_3)) else (if a0_2.toList = ([] : List UInt8) then (layout_Span.j0 k (decide ((l0_3.length : Int) > 0)) a0_0 a0_1 a0_2 l0_3) else (layout_Span.j0 k false a0_0 a0_1 a0_2 l0_3))) else (layout_Span.j0 k true a0_0 a0_1 a0_2 l0_3))
theorem layout_Span.mono_l : ∀ k, (∀ y0 y1 y2 y3 y4, LeO (layout_Span.j0 k y0 y1 y2 y3 y4) (layout_Span.j0 (k + 1) y0 y1 y2 y3 y4)) ∧ (∀ y0 y1 y2 y3 y4, LeO (layout_Span.j1 k y0 y1 y2 y3 y4) (layout_Span.j1 (k + 1) y0 y1 y2 y3 y4))
 | 0 => ⟨fun _ _ _ _ _ r h => by simp [layout_Span.j0] at h, fun _ _ _ _ _ r h => by simp [layout_Span.j1] at h⟩
 | k + 1 => by
  obtain ⟨ih0, ih1⟩ := layout_Span.mono_l k
  refine ⟨?_, ?_⟩
  ·intro y0 y1 y2 y3 y4
   unfold layout_Span.j0
   repeat' first
   | (with_reducible exact ih0 _ _ _ _ _)
   | (with_reducible exact ih1 _ _ _ _ _)
   | (with_reducible exact layout_encode.mono _ _ _ _ _ _)
   | (with_reducible exact layout_numbers.mono _ _ _ _ _)
   | (with_reducible exact listing_Bucket.mono _ _)
   | (with_reducible exact LeO.refl _)
   | (with_reducible exact LeO.none _)
   | (with_reducible refine LeO.ite ?_ ?_)
   | (with_reducible refine LeO.bind ?_ (fun _ => ?_))
   | exact ih0 _ _ _ _ _
   | exact ih1 _ _ _ _ _
   | exact layout_encode.mono _ _ _ _ _ _
   | exact layout_numbers.mono _ _ _ _ _
   | exact listing_Bucket.mono _ _
   | exact LeO.none _
   | refine LeO.ite ?_ ?_
   | refine LeO.bind ?_ (fun _ => ?_)
  ·intro y0 y1 y2 y3 y4
   unfold layout_Span.j1
   repeat' first
   | (with_reducible exact ih0 _ _ _ _ _)
   | (with_reducible exact ih1 _ _ _ _ _)
   | (with_reducible exact layout_encode.mono _ _ _ _ _ _)
   | (with_reducible exact layout_numbers.mono _ _ _ _ _)
   | (with_reducible exact listing_Bucket.mono _ _)
   | (with_reducible exact LeO.refl _)
   | (with_reducible exact LeO.none _)
   | (with_reducible refine LeO.ite ?_ ?_)
   | (with_reducible refine LeO.bind ?_ (fun _ => ?_))
   | exact ih0 _ _ _ _ _
   | exact ih1 _ _ _ _ _
   | exact layout_encode.mono _ _ _ _ _ _
   | exact layout_numbers.mono _ _ _ _ _
   | exact listing_Bucket.mono _ _
   | exact LeO.none _
   | refine LeO.ite ?_ ?_
   | refine LeO.bind ?_ (fun _ => ?_)
theorem layout_Span.mono : ∀ a0 a1 a2 a3 k, LeO (layout_Span.f k a0 a1 a2 a3) (layout_Span.f (k + 1) a0 a1 a2 a3) := by
 intro a0 a1 a2 a3 k
 obtain ⟨ih0, ih1⟩ := layout_Span.mono_l k
 unfold layout_Span.f
 repeat' first
   | (with_reducible exact ih0 _ _ _ _ _)
   | (with_reducible exact ih1 _ _ _ _ _)
   | (with_reducible exact layout_encode.mono _ _ _ _ _ _)
   | (with_reducible exact layout_numbers.mono _ _ _ _ _)
   | (with_reducible exact listing_Bucket.mono _ _)
   | (with_reducible exact LeO.refl _)
   | (with_reducible exact LeO.none _)
   | (with_reducible refine LeO.ite ?_ ?_)
   | (with_reducible refine LeO.bind ?_ (fun _ => ?_))
   | exact ih0 _ _ _ _ _
   | exact ih1 _ _ _ _ _
   | exact layout_encode.mono _ _ _ _ _ _
   | exact layout_numbers.mono _ _ _ _ _
   | exact listing_Bucket.mono _ _
   | exact LeO.none _
   | refine LeO.ite ?_ ?_
   | refine LeO.bind ?_ (fun _ => ?_)
set_option maxHeartbeats 8000000 in
set_option maxRecDepth 100000 in
theorem layout_Span.calls (k : Nat) (a0_0 : Int) (a0_1 : ByteArray) (a0_2 : ByteArray) (A0_3 : Option Addr) (c0_3 : Nat) (l0_3 : List Int) (r1 : ByteArray) (r2 : ByteArray) (r3 : Int) (w : World) (hr0_3 : Kd.C (Kd.int .i64) w A0_3 l0_3.length l0_3) (hc0_3 : l0_3.length ≤ c0_3) (h : layout_Span.f k a0_0 a0_1 a0_2 l0_3 = some (r1, r2, r3)) :
  Calls Tryd.prog 10 #[.agg #[.int .i64 a0_0, .string a0_1, .string a0_2, .slice A0_3 l0_3.length c0_3]] w fun e w' => e = .returned (.tuple #[.agg #[.string r1, .string r2], .int .i64 r3]) ∧ Below w.heap.size w w' := by
 have hu25 := Tryd.underlying25
 have hu29 := Tryd.underlying29
 have HR0_3 := Aside0.mk hr0_3
 have HC0_3 := Aside0.mk hc0_3
 clear hr0_3 hc0_3
 have HB := Aside0.mk (Below.refl w.heap.size w)
 have H : ((layout_numbers.f k a0_0 a0_1 a0_2 l0_3).bind fun t160 => (if t160 = true then (if a0_1.toList = ([] : List UInt8) then (if a0_2.toList = ([] : List UInt8) then (layout_Span.j0 k (decide ((l0_3.length : Int) > 0)) a0_0 a0_1 a0_2 l0_3) else (layout_Span.j0 k true a0_0 a0_1 a0_2 l0_3)) else (if a0_2.toList = ([] : List UInt8) then (layout_Span.j0 k (decide ((l0_3.length : Int) > 0)) a0_0 a0_1 a0_2 l0_3) else (layout_Span.j0 k false a0_0 a0_1 a0_2 l0_3))) else (layout_Span.j0 k true a0_0 a0_1 a0_2 l0_3))) = some (r1, r2, r3) := h
 clear h
 have HC2 := Aside0.mk H
 clear H
 go_enter Tryd.func10, Tryd.ntmps10
 go_upto_region 1 with (first | ((with_reducible refine gate_dst (N := 1) rfl ?_); (try (refine gate_guard (by rfl) ?_; dsimp only)); refine box_event ?hg (N := 1) ?hd (cs := #[.int .i64 a0_0, .string a0_1, .string a0_2, .slice A0_3 l0_3.length c0_3]) (t := 25) ?hr ?_; (case hd => rfl); (case hg => rfl); (case hr => (go_simp; done)); intro gb158 hg w3 hbox hb; have n0_ := Aside0.mk (below_step (by repeat ((with_reducible exact HB.out))) hb); have n1_ := Aside0.mk (hbox); have n2_ := Aside0.mk ((by rw [hg]; exact (below_size (by repeat ((with_reducible exact HB.out)))) : w.heap.size ≤ gb158)); have n3_ := Aside0.mk ((by rw [hg]; exact (below_size (by repeat ((with_reducible exact HB.out)))) : w.heap.size ≤ gb158)); clear HB; have HB := n0_; have BK158 := n1_; have GW158 := n2_; have GE158 := n3_; clear n0_ n1_ n2_ n3_; clear hb hbox hg) | ((with_reducible refine gate_dst (N := 2) rfl ?_); (try (refine gate_guard (by rfl) ?_; dsimp only)); refine box_event ?hg (N := 2) ?hd (cs := #[.string (⟨#[]⟩ : ByteArray), .string (⟨#[]⟩ : ByteArray)]) (t := 29) ?hr ?_; (case hd => rfl); (case hg => rfl); (case hr => (go_simp; done)); intro gb159 hg w4 hbox hb; have n0_ := Aside0.mk (blk_below (g := gb158) (o := .cells #[.int .i64 a0_0, .string a0_1, .string a0_2, .slice A0_3 l0_3.length c0_3] 25 (0, 0)) (by (with_reducible repeat (refine blk_drew ?_)); exact BK158.out) hb); have n1_ := Aside0.mk (below_step (by repeat ((with_reducible exact HB.out))) hb); have n2_ := Aside0.mk (hbox); have n3_ := Aside0.mk ((by rw [hg]; exact (below_size (by repeat ((with_reducible exact HB.out)))) : w.heap.size ≤ gb159)); have n4_ := Aside0.mk ((by rw [hg]; exact (below_size (by repeat ((with_reducible exact HB.out)))) : w.heap.size ≤ gb159)); have n5_ := Aside0.mk ((by rw [hg]; exact Nat.ne_of_lt (blk_lt (g := gb158) (o := .cells #[.int .i64 a0_0, .string a0_1, .string a0_2, .slice A0_3 l0_3.length c0_3] 25 (0, 0)) (by (with_reducible repeat (refine blk_drew ?_)); exact BK158.out)) : gb158 ≠ gb159)); have n6_ := Aside0.mk ((by rw [hg]; exact Nat.ne_of_gt (blk_lt (g := gb158) (o := .cells #[.int .i64 a0_0, .string a0_1, .string a0_2, .slice A0_3 l0_3.length c0_3] 25 (0, 0)) (by (with_reducible repeat (refine blk_drew ?_)); exact BK158.out)) : gb159 ≠ gb158)); clear BK158; clear HB; have BK158 := n0_; have HB := n1_; have BK159 := n2_; have GW159 := n3_; have GE159 := n4_; have NB158_159 := n5_; have NB159_158 := n6_; clear n0_ n1_ n2_ n3_ n4_ n5_ n6_; clear hb hbox hg))
 (try simp only [Act.put, List.setIfInBounds_toArray, List.set_cons_zero, List.set_cons_succ])
 go_cut [28] (fun v28 wc => ∃ (kq : Nat) (x28_1 : Bool), v28 = .bool x28_1 ∧ Aside0 (layout_Span.j0 kq x28_1 a0_0 a0_1 a0_2 l0_3 = some (r1, r2, r3)) ∧ Aside0 (kq ≤ k) ∧ Aside0 (wc.heap[gb158]? = some (.cells #[.int .i64 a0_0, .string a0_1, .string a0_2, (.slice A0_3 l0_3.length c0_3)] 25 (0, 0))) ∧ Aside0 (wc.heap[gb159]? = some (.cells #[.string (⟨#[]⟩ : ByteArray), .string (⟨#[]⟩ : ByteArray)] 29 (0, 0))) ∧ Aside0 (Below w.heap.size w wc))
 case first =>
  have H := HC2.out
  clear HC2
  replace H := Option.bind_eq_some_iff.mp H
  obtain ⟨t160, A50, H⟩ := H
  replace H : (if t160 = true then (if a0_1.toList = ([] : List UInt8) then (if a0_2.toList = ([] : List UInt8) then (layout_Span.j0 k (decide ((l0_3.length : Int) > 0)) a0_0 a0_1 a0_2 l0_3) else (layout_Span.j0 k true a0_0 a0_1 a0_2 l0_3)) else (if a0_2.toList = ([] : List UInt8) then (layout_Span.j0 k (decide ((l0_3.length : Int) > 0)) a0_0 a0_1 a0_2 l0_3) else (layout_Span.j0 k false a0_0 a0_1 a0_2 l0_3))) else (layout_Span.j0 k true a0_0 a0_1 a0_2 l0_3)) = some (r1, r2, r3) := H
  have A5 := Aside0.mk A50
  clear A50
  by_cases c6 : t160 = true
  ·subst c6
   have H1 : (if a0_1.toList = ([] : List UInt8) then (if a0_2.toList = ([] : List UInt8) then (layout_Span.j0 k (decide ((l0_3.length : Int) > 0)) a0_0 a0_1 a0_2 l0_3) else (layout_Span.j0 k true a0_0 a0_1 a0_2 l0_3)) else (if a0_2.toList = ([] : List UInt8) then (layout_Span.j0 k (decide ((l0_3.length : Int) > 0)) a0_0 a0_1 a0_2 l0_3) else (layout_Span.j0 k false a0_0 a0_1 a0_2 l0_3))) = some (r1, r2, r3) := by rw [if_pos rfl] at H; exact H
   clear H
   have H := H1
   clear H1
   by_cases c7 : a0_1.toList = ([] : List UInt8)
   ·rw [if_pos c7] at H
    have c7b0 : (a0_1.toList == ([] : List UInt8)) = true := beq_iff_eq.mpr c7
    have c7b1 : (a0_1.toList != ([] : List UInt8)) = false := bne_eq_false_iff_eq.mpr c7
    clear c7
    (skip)
    by_cases c8 : a0_2.toList = ([] : List UInt8)
    ·rw [if_pos c8] at H
     have c8b0 : (a0_2.toList == ([] : List UInt8)) = true := beq_iff_eq.mpr c8
     have c8b1 : (a0_2.toList != ([] : List UInt8)) = false := bne_eq_false_iff_eq.mpr c8
     clear c8
     have H' := Aside0.mk H
     clear H
     have hnb9 := NB158_159.out
     have hnc9 := NB159_158.out
     have hcz10_0 : w4.cell? ⟨gb158, 0, none⟩ = some (.int .i64 a0_0) := (blk_cell BK158.out 0).trans rfl
     have hcz10_1 : w4.cell? ⟨gb158, 1, none⟩ = some (.string a0_1) := (blk_cell BK158.out 1).trans rfl
     have hcz10_2 : w4.cell? ⟨gb158, 2, none⟩ = some (.string a0_2) := (blk_cell BK158.out 2).trans rfl
     have hcz10_3 : w4.cell? ⟨gb158, 3, none⟩ = some (.slice A0_3 l0_3.length c0_3) := (blk_cell BK158.out 3).trans rfl
     have hfz10_0 := blk_frozen BK158.out 0
     have hfz10_1 := blk_frozen BK158.out 1
     have hfz10_2 := blk_frozen BK158.out 2
     have hfz10_3 := blk_frozen BK158.out 3
     go_wp2_with (((with_reducible refine gate_callee (f := 28) rfl ?_); refine goesL_ (some 6) rfl rfl Tryd.func28 (by kernel_rfl) rfl #[.agg #[.int .i64 a0_0, .string a0_1, .string a0_2, .slice A0_3 l0_3.length c0_3]] rfl (by (try simp only [List.map_toArray, List.map_cons, List.map_nil]); rfl) ?_; (with_reducible refine (layout_numbers.calls k a0_0 a0_1 a0_2 _ _ l0_3 true _ ?side1 ?side2 A5.out).mono ?_); (case side1 => repeat (exact (Kd.C_below HR0_3.out HB.out))); (case side2 => exact HC0_3.out); rintro e w11 ⟨rfl, hb⟩; refine ⟨_, rfl, ?_⟩; have n0_ := Aside0.mk (blk_below (g := gb158) (o := .cells #[.int .i64 a0_0, .string a0_1, .string a0_2, .slice A0_3 l0_3.length c0_3] 25 (0, 0)) (by (with_reducible repeat (refine blk_drew ?_)); exact BK158.out) hb); have n1_ := Aside0.mk (blk_below (g := gb159) (o := .cells #[.string (⟨#[]⟩ : ByteArray), .string (⟨#[]⟩ : ByteArray)] 29 (0, 0)) (by (with_reducible repeat (refine blk_drew ?_)); exact BK159.out) hb); have n2_ := Aside0.mk (below_step (by repeat ((with_reducible exact HB.out))) hb); clear BK158; clear BK159; clear HB; have BK158 := n0_; have BK159 := n1_; have HB := n2_; clear n0_ n1_ n2_; (try clear hb); (try clear hb2); (try clear hk); (try clear hi); have hcz12_0 : w11.cell? ⟨gb158, 0, none⟩ = some (.int .i64 a0_0) := (blk_cell BK158.out 0).trans rfl; have hcz12_1 : w11.cell? ⟨gb158, 1, none⟩ = some (.string a0_1) := (blk_cell BK158.out 1).trans rfl; have hcz12_2 : w11.cell? ⟨gb158, 2, none⟩ = some (.string a0_2) := (blk_cell BK158.out 2).trans rfl; have hcz12_3 : w11.cell? ⟨gb158, 3, none⟩ = some (.slice A0_3 l0_3.length c0_3) := (blk_cell BK158.out 3).trans rfl; have hfz12_0 := blk_frozen BK158.out 0; have hfz12_1 := blk_frozen BK158.out 1; have hfz12_2 := blk_frozen BK158.out 2; have hfz12_3 := blk_frozen BK158.out 3))
     go_meet
     case rel => exact ⟨_, (decide ((l0_3.length : Int) > 0)), (by (simp; done)), H', ⟨by omega⟩, ⟨by (with_reducible repeat (refine blk_drew ?_)); exact BK158.out⟩, ⟨by (with_reducible repeat (refine blk_drew ?_)); exact BK159.out⟩, ⟨by repeat ((with_reducible exact HB.out))⟩⟩
    ·rw [if_neg c8] at H
     have c8b0 : (a0_2.toList == ([] : List UInt8)) = false := beq_eq_false_iff_ne.mpr c8
     have c8b1 : (a0_2.toList != ([] : List UInt8)) = true := bne_iff_ne.mpr c8
     have H' := Aside0.mk H
     clear H
     have hnb13 := NB158_159.out
     have hnc13 := NB159_158.out
     have hcz14_0 : w4.cell? ⟨gb158, 0, none⟩ = some (.int .i64 a0_0) := (blk_cell BK158.out 0).trans rfl
     have hcz14_1 : w4.cell? ⟨gb158, 1, none⟩ = some (.string a0_1) := (blk_cell BK158.out 1).trans rfl
     have hcz14_2 : w4.cell? ⟨gb158, 2, none⟩ = some (.string a0_2) := (blk_cell BK158.out 2).trans rfl
     have hcz14_3 : w4.cell? ⟨gb158, 3, none⟩ = some (.slice A0_3 l0_3.length c0_3) := (blk_cell BK158.out 3).trans rfl
     have hfz14_0 := blk_frozen BK158.out 0
     have hfz14_1 := blk_frozen BK158.out 1
     have hfz14_2 := blk_frozen BK158.out 2
     have hfz14_3 := blk_frozen BK158.out 3
     go_wp2_with (((with_reducible refine gate_callee (f := 28) rfl ?_); refine goesL_ (some 6) rfl rfl Tryd.func28 (by kernel_rfl) rfl #[.agg #[.int .i64 a0_0, .string a0_1, .string a0_2, .slice A0_3 l0_3.length c0_3]] rfl (by (try simp only [List.map_toArray, List.map_cons, List.map_nil]); rfl) ?_; (with_reducible refine (layout_numbers.calls k a0_0 a0_1 a0_2 _ _ l0_3 true _ ?side1 ?side2 A5.out).mono ?_); (case side1 => repeat (exact (Kd.C_below HR0_3.out HB.out))); (case side2 => exact HC0_3.out); rintro e w15 ⟨rfl, hb⟩; refine ⟨_, rfl, ?_⟩; have n0_ := Aside0.mk (blk_below (g := gb158) (o := .cells #[.int .i64 a0_0, .string a0_1, .string a0_2, .slice A0_3 l0_3.length c0_3] 25 (0, 0)) (by (with_reducible repeat (refine blk_drew ?_)); exact BK158.out) hb); have n1_ := Aside0.mk (blk_below (g := gb159) (o := .cells #[.string (⟨#[]⟩ : ByteArray), .string (⟨#[]⟩ : ByteArray)] 29 (0, 0)) (by (with_reducible repeat (refine blk_drew ?_)); exact BK159.out) hb); have n2_ := Aside0.mk (below_step (by repeat ((with_reducible exact HB.out))) hb); clear BK158; clear BK159; clear HB; have BK158 := n0_; have BK159 := n1_; have HB := n2_; clear n0_ n1_ n2_; (try clear hb); (try clear hb2); (try clear hk); (try clear hi); have hcz16_0 : w15.cell? ⟨gb158, 0, none⟩ = some (.int .i64 a0_0) := (blk_cell BK158.out 0).trans rfl; have hcz16_1 : w15.cell? ⟨gb158, 1, none⟩ = some (.string a0_1) := (blk_cell BK158.out 1).trans rfl; have hcz16_2 : w15.cell? ⟨gb158, 2, none⟩ = some (.string a0_2) := (blk_cell BK158.out 2).trans rfl; have hcz16_3 : w15.cell? ⟨gb158, 3, none⟩ = some (.slice A0_3 l0_3.length c0_3) := (blk_cell BK158.out 3).trans rfl; have hfz16_0 := blk_frozen BK158.out 0; have hfz16_1 := blk_frozen BK158.out 1; have hfz16_2 := blk_frozen BK158.out 2; have hfz16_3 := blk_frozen BK158.out 3))
     go_meet
     case rel => exact ⟨_, (true), (by rfl), H', ⟨by omega⟩, ⟨by (with_reducible repeat (refine blk_drew ?_)); exact BK158.out⟩, ⟨by (with_reducible repeat (refine blk_drew ?_)); exact BK159.out⟩, ⟨by repeat ((with_reducible exact HB.out))⟩⟩
   ·rw [if_neg c7] at H
    have c7b0 : (a0_1.toList == ([] : List UInt8)) = false := beq_eq_false_iff_ne.mpr c7
    have c7b1 : (a0_1.toList != ([] : List UInt8)) = true := bne_iff_ne.mpr c7
    (skip)
    by_cases c17 : a0_2.toList = ([] : List UInt8)
    ·rw [if_pos c17] at H
     have c17b0 : (a0_2.toList == ([] : List UInt8)) = true := beq_iff_eq.mpr c17
     have c17b1 : (a0_2.toList != ([] : List UInt8)) = false := bne_eq_false_iff_eq.mpr c17
     clear c17
     have H' := Aside0.mk H
     clear H
     have hnb18 := NB158_159.out
     have hnc18 := NB159_158.out
     have hcz19_0 : w4.cell? ⟨gb158, 0, none⟩ = some (.int .i64 a0_0) := (blk_cell BK158.out 0).trans rfl
     have hcz19_1 : w4.cell? ⟨gb158, 1, none⟩ = some (.string a0_1) := (blk_cell BK158.out 1).trans rfl
     have hcz19_2 : w4.cell? ⟨gb158, 2, none⟩ = some (.string a0_2) := (blk_cell BK158.out 2).trans rfl
     have hcz19_3 : w4.cell? ⟨gb158, 3, none⟩ = some (.slice A0_3 l0_3.length c0_3) := (blk_cell BK158.out 3).trans rfl
     have hfz19_0 := blk_frozen BK158.out 0
     have hfz19_1 := blk_frozen BK158.out 1
     have hfz19_2 := blk_frozen BK158.out 2
     have hfz19_3 := blk_frozen BK158.out 3
     go_wp2_with (((with_reducible refine gate_callee (f := 28) rfl ?_); refine goesL_ (some 6) rfl rfl Tryd.func28 (by kernel_rfl) rfl #[.agg #[.int .i64 a0_0, .string a0_1, .string a0_2, .slice A0_3 l0_3.length c0_3]] rfl (by (try simp only [List.map_toArray, List.map_cons, List.map_nil]); rfl) ?_; (with_reducible refine (layout_numbers.calls k a0_0 a0_1 a0_2 _ _ l0_3 true _ ?side1 ?side2 A5.out).mono ?_); (case side1 => repeat (exact (Kd.C_below HR0_3.out HB.out))); (case side2 => exact HC0_3.out); rintro e w20 ⟨rfl, hb⟩; refine ⟨_, rfl, ?_⟩; have n0_ := Aside0.mk (blk_below (g := gb158) (o := .cells #[.int .i64 a0_0, .string a0_1, .string a0_2, .slice A0_3 l0_3.length c0_3] 25 (0, 0)) (by (with_reducible repeat (refine blk_drew ?_)); exact BK158.out) hb); have n1_ := Aside0.mk (blk_below (g := gb159) (o := .cells #[.string (⟨#[]⟩ : ByteArray), .string (⟨#[]⟩ : ByteArray)] 29 (0, 0)) (by (with_reducible repeat (refine blk_drew ?_)); exact BK159.out) hb); have n2_ := Aside0.mk (below_step (by repeat ((with_reducible exact HB.out))) hb); clear BK158; clear BK159; clear HB; have BK158 := n0_; have BK159 := n1_; have HB := n2_; clear n0_ n1_ n2_; (try clear hb); (try clear hb2); (try clear hk); (try clear hi); have hcz21_0 : w20.cell? ⟨gb158, 0, none⟩ = some (.int .i64 a0_0) := (blk_cell BK158.out 0).trans rfl; have hcz21_1 : w20.cell? ⟨gb158, 1, none⟩ = some (.string a0_1) := (blk_cell BK158.out 1).trans rfl; have hcz21_2 : w20.cell? ⟨gb158, 2, none⟩ = some (.string a0_2) := (blk_cell BK158.out 2).trans rfl; have hcz21_3 : w20.cell? ⟨gb158, 3, none⟩ = some (.slice A0_3 l0_3.length c0_3) := (blk_cell BK158.out 3).trans rfl; have hfz21_0 := blk_frozen BK158.out 0; have hfz21_1 := blk_frozen BK158.out 1; have hfz21_2 := blk_frozen BK158.out 2; have hfz21_3 := blk_frozen BK158.out 3))
     go_meet
     case rel => exact ⟨_, (decide ((l0_3.length : Int) > 0)), (by (simp; done)), H', ⟨by omega⟩, ⟨by (with_reducible repeat (refine blk_drew ?_)); exact BK158.out⟩, ⟨by (with_reducible repeat (refine blk_drew ?_)); exact BK159.out⟩, ⟨by repeat ((with_reducible exact HB.out))⟩⟩
    ·rw [if_neg c17] at H
     have c17b0 : (a0_2.toList == ([] : List UInt8)) = false := beq_eq_false_iff_ne.mpr c17
     have c17b1 : (a0_2.toList != ([] : List UInt8)) = true := bne_iff_ne.mpr c17
     have H' := Aside0.mk H
     clear H
     have hnb22 := NB158_159.out
     have hnc22 := NB159_158.out
     have hcz23_0 : w4.cell? ⟨gb158, 0, none⟩ = some (.int .i64 a0_0) := (blk_cell BK158.out 0).trans rfl
     have hcz23_1 : w4.cell? ⟨gb158, 1, none⟩ = some (.string a0_1) := (blk_cell BK158.out 1).trans rfl
     have hcz23_2 : w4.cell? ⟨gb158, 2, none⟩ = some (.string a0_2) := (blk_cell BK158.out 2).trans rfl
     have hcz23_3 : w4.cell? ⟨gb158, 3, none⟩ = some (.slice A0_3 l0_3.length c0_3) := (blk_cell BK158.out 3).trans rfl
     have hfz23_0 := blk_frozen BK158.out 0
     have hfz23_1 := blk_frozen BK158.out 1
     have hfz23_2 := blk_frozen BK158.out 2
     have hfz23_3 := blk_frozen BK158.out 3
     go_wp2_with (((with_reducible refine gate_callee (f := 28) rfl ?_); refine goesL_ (some 6) rfl rfl Tryd.func28 (by kernel_rfl) rfl #[.agg #[.int .i64 a0_0, .string a0_1, .string a0_2, .slice A0_3 l0_3.length c0_3]] rfl (by (try simp only [List.map_toArray, List.map_cons, List.map_nil]); rfl) ?_; (with_reducible refine (layout_numbers.calls k a0_0 a0_1 a0_2 _ _ l0_3 true _ ?side1 ?side2 A5.out).mono ?_); (case side1 => repeat (exact (Kd.C_below HR0_3.out HB.out))); (case side2 => exact HC0_3.out); rintro e w24 ⟨rfl, hb⟩; refine ⟨_, rfl, ?_⟩; have n0_ := Aside0.mk (blk_below (g := gb158) (o := .cells #[.int .i64 a0_0, .string a0_1, .string a0_2, .slice A0_3 l0_3.length c0_3] 25 (0, 0)) (by (with_reducible repeat (refine blk_drew ?_)); exact BK158.out) hb); have n1_ := Aside0.mk (blk_below (g := gb159) (o := .cells #[.string (⟨#[]⟩ : ByteArray), .string (⟨#[]⟩ : ByteArray)] 29 (0, 0)) (by (with_reducible repeat (refine blk_drew ?_)); exact BK159.out) hb); have n2_ := Aside0.mk (below_step (by repeat ((with_reducible exact HB.out))) hb); clear BK158; clear BK159; clear HB; have BK158 := n0_; have BK159 := n1_; have HB := n2_; clear n0_ n1_ n2_; (try clear hb); (try clear hb2); (try clear hk); (try clear hi); have hcz25_0 : w24.cell? ⟨gb158, 0, none⟩ = some (.int .i64 a0_0) := (blk_cell BK158.out 0).trans rfl; have hcz25_1 : w24.cell? ⟨gb158, 1, none⟩ = some (.string a0_1) := (blk_cell BK158.out 1).trans rfl; have hcz25_2 : w24.cell? ⟨gb158, 2, none⟩ = some (.string a0_2) := (blk_cell BK158.out 2).trans rfl; have hcz25_3 : w24.cell? ⟨gb158, 3, none⟩ = some (.slice A0_3 l0_3.length c0_3) := (blk_cell BK158.out 3).trans rfl; have hfz25_0 := blk_frozen BK158.out 0; have hfz25_1 := blk_frozen BK158.out 1; have hfz25_2 := blk_frozen BK158.out 2; have hfz25_3 := blk_frozen BK158.out 3))
     go_meet
     case rel => exact ⟨_, (false), (by rfl), H', ⟨by omega⟩, ⟨by (with_reducible repeat (refine blk_drew ?_)); exact BK158.out⟩, ⟨by (with_reducible repeat (refine blk_drew ?_)); exact BK159.out⟩, ⟨by repeat ((with_reducible exact HB.out))⟩⟩
  ·replace c6 := Bool.eq_false_iff.mpr c6
   subst c6
   have H1 : (layout_Span.j0 k true a0_0 a0_1 a0_2 l0_3) = some (r1, r2, r3) := by rw [if_neg (show ¬ (false = true) by decide)] at H; exact H
   clear H
   have H := H1
   clear H1
   have H' := Aside0.mk H
   clear H
   have hnb26 := NB158_159.out
   have hnc26 := NB159_158.out
   have hcz27_0 : w4.cell? ⟨gb158, 0, none⟩ = some (.int .i64 a0_0) := (blk_cell BK158.out 0).trans rfl
   have hcz27_1 : w4.cell? ⟨gb158, 1, none⟩ = some (.string a0_1) := (blk_cell BK158.out 1).trans rfl
   have hcz27_2 : w4.cell? ⟨gb158, 2, none⟩ = some (.string a0_2) := (blk_cell BK158.out 2).trans rfl
   have hcz27_3 : w4.cell? ⟨gb158, 3, none⟩ = some (.slice A0_3 l0_3.length c0_3) := (blk_cell BK158.out 3).trans rfl
   have hfz27_0 := blk_frozen BK158.out 0
   have hfz27_1 := blk_frozen BK158.out 1
   have hfz27_2 := blk_frozen BK158.out 2
   have hfz27_3 := blk_frozen BK158.out 3
   go_wp2_with (((with_reducible refine gate_callee (f := 28) rfl ?_); refine goesL_ (some 6) rfl rfl Tryd.func28 (by kernel_rfl) rfl #[.agg #[.int .i64 a0_0, .string a0_1, .string a0_2, .slice A0_3 l0_3.length c0_3]] rfl (by (try simp only [List.map_toArray, List.map_cons, List.map_nil]); rfl) ?_; (with_reducible refine (layout_numbers.calls k a0_0 a0_1 a0_2 _ _ l0_3 false _ ?side1 ?side2 A5.out).mono ?_); (case side1 => repeat (exact (Kd.C_below HR0_3.out HB.out))); (case side2 => exact HC0_3.out); rintro e w28 ⟨rfl, hb⟩; refine ⟨_, rfl, ?_⟩; have n0_ := Aside0.mk (blk_below (g := gb158) (o := .cells #[.int .i64 a0_0, .string a0_1, .string a0_2, .slice A0_3 l0_3.length c0_3] 25 (0, 0)) (by (with_reducible repeat (refine blk_drew ?_)); exact BK158.out) hb); have n1_ := Aside0.mk (blk_below (g := gb159) (o := .cells #[.string (⟨#[]⟩ : ByteArray), .string (⟨#[]⟩ : ByteArray)] 29 (0, 0)) (by (with_reducible repeat (refine blk_drew ?_)); exact BK159.out) hb); have n2_ := Aside0.mk (below_step (by repeat ((with_reducible exact HB.out))) hb); clear BK158; clear BK159; clear HB; have BK158 := n0_; have BK159 := n1_; have HB := n2_; clear n0_ n1_ n2_; (try clear hb); (try clear hb2); (try clear hk); (try clear hi)))
   go_meet
   case rel => exact ⟨_, (true), (by rfl), H', ⟨by omega⟩, ⟨by (with_reducible repeat (refine blk_drew ?_)); exact BK158.out⟩, ⟨by (with_reducible repeat (refine blk_drew ?_)); exact BK159.out⟩, ⟨by repeat ((with_reducible exact HB.out))⟩⟩
 case rest =>
  clear HC2
  try clear c1
  try clear c2
  try clear p2
  try clear c6
  try clear c7
  try clear c7b0
  try clear c7b1
  try clear c8
  try clear c8b0
  try clear c8b1
  try clear c9
  try clear c10
  try clear c13
  try clear c17
  try clear c17b0
  try clear c17b1
  try clear c18
  try clear c22
  try clear c26
  try clear c28
  try clear hcz10_0
  try clear hcz10_1
  try clear hcz10_2
  try clear hcz10_3
  try clear hcz12_0
  try clear hcz12_1
  try clear hcz12_2
  try clear hcz12_3
  try clear hcz14_0
  try clear hcz14_1
  try clear hcz14_2
  try clear hcz14_3
  try clear hcz16_0
  try clear hcz16_1
  try clear hcz16_2
  try clear hcz16_3
  try clear hcz19_0
  try clear hcz19_1
  try clear hcz19_2
  try clear hcz19_3
  try clear hcz21_0
  try clear hcz21_1
  try clear hcz21_2
  try clear hcz21_3
  try clear hcz23_0
  try clear hcz23_1
  try clear hcz23_2
  try clear hcz23_3
  try clear hcz25_0
  try clear hcz25_1
  try clear hcz25_2
  try clear hcz25_3
  try clear hcz27_0
  try clear hcz27_1
  try clear hcz27_2
  try clear hcz27_3
  try clear hfz10_0
  try clear hfz10_1
  try clear hfz10_2
  try clear hfz10_3
  try clear hfz12_0
  try clear hfz12_1
  try clear hfz12_2
  try clear hfz12_3
  try clear hfz14_0
  try clear hfz14_1
  try clear hfz14_2
  try clear hfz14_3
  try clear hfz16_0
  try clear hfz16_1
  try clear hfz16_2
  try clear hfz16_3
  try clear hfz19_0
  try clear hfz19_1
  try clear hfz19_2
  try clear hfz19_3
  try clear hfz21_0
  try clear hfz21_1
  try clear hfz21_2
  try clear hfz21_3
  try clear hfz23_0
  try clear hfz23_1
  try clear hfz23_2
  try clear hfz23_3
  try clear hfz25_0
  try clear hfz25_1
  try clear hfz25_2
  try clear hfz25_3
  try clear hfz27_0
  try clear hfz27_1
  try clear hfz27_2
  try clear hfz27_3
  obtain ⟨kq, x28_1, rfl, HA, HJ1, BK158, BK159, HB⟩ := hcut
  cases kq with
  | zero => exact absurd HA.out (by simp [layout_Span.j0])
  | succ kj1 =>
   have H := HA.out
   clear HA
   simp only [layout_Span.j0] at H
   by_cases c29 : x28_1 = true
   ·subst c29
    have H1 : (some ((⟨#[]⟩ : ByteArray), (⟨#[]⟩ : ByteArray), 2)) = some (r1, r2, r3) := by rw [if_pos rfl] at H; exact H
    clear H
    have H := H1
    clear H1
    simp only [Option.some.injEq, Prod.mk.injEq] at H
    obtain ⟨rfl, rfl, rfl⟩ := H
    have hnb30 := NB159_158.out
    have hnc30 := NB158_159.out
    have hcz31_0 : wc.cell? ⟨gb159, 0, none⟩ = some (.string (⟨#[]⟩ : ByteArray)) := (blk_cell BK159.out 0).trans rfl
    have hcz31_1 : wc.cell? ⟨gb159, 1, none⟩ = some (.string (⟨#[]⟩ : ByteArray)) := (blk_cell BK159.out 1).trans rfl
    have hfz31_0 := blk_frozen BK159.out 0
    have hfz31_1 := blk_frozen BK159.out 1
    go_wp2
    refine bodyPost_ret (results_ct rfl _ _ gb159 29 #[.string (⟨#[]⟩ : ByteArray), .string (⟨#[]⟩ : ByteArray)] (0, 0) _ rfl (by (with_reducible repeat (refine blk_drew ?_)); refine blk_put (cs := #[.string (⟨#[]⟩ : ByteArray), .string (⟨#[]⟩ : ByteArray)]) ?_ 1 _ rfl; (with_reducible repeat (refine blk_drew ?_)); refine blk_put (cs := #[.string (⟨#[]⟩ : ByteArray), .string (⟨#[]⟩ : ByteArray)]) ?_ 0 _ rfl; (with_reducible repeat (refine blk_drew ?_)); exact BK159.out) Tryd.underlying29 rfl (by kernel_rfl)) rfl ?_
    exact ⟨by rfl, by repeat ((with_reducible first | exact HB.out | refine below_set ?_ GE159.out))⟩
   ·replace c29 := Bool.eq_false_iff.mpr c29
    subst c29
    have H1 : (if a0_1.toList = ([] : List UInt8) then (if a0_2.toList = ([] : List UInt8) then (layout_Span.j1 kj1 false a0_0 a0_1 a0_2 l0_3) else ((listing_Object.f a0_2).bind fun t161 => (layout_Span.j1 kj1 (t161 != 0) a0_0 a0_1 a0_2 l0_3))) else ((listing_Bucket.f kj1 a0_1).bind fun t162 => (if t162 = 0 then (if a0_2.toList = ([] : List UInt8) then (layout_Span.j1 kj1 false a0_0 a0_1 a0_2 l0_3) else ((listing_Object.f a0_2).bind fun t163 => (layout_Span.j1 kj1 (t163 != 0) a0_0 a0_1 a0_2 l0_3))) else (layout_Span.j1 kj1 true a0_0 a0_1 a0_2 l0_3)))) = some (r1, r2, r3) := by rw [if_neg (show ¬ (false = true) by decide)] at H; exact H
    clear H
    have H := H1
    clear H1
    have HC32 := Aside0.mk H
    clear H
    go_upto_region 3 with (fail)
    go_cut [49] (fun v49 wc => ∃ (kq : Nat) (x49_31 : Bool), v49 = .bool x49_31 ∧ Aside0 (layout_Span.j1 kq x49_31 a0_0 a0_1 a0_2 l0_3 = some (r1, r2, r3)) ∧ Aside0 (kq ≤ kj1) ∧ Aside0 (wc.heap[gb158]? = some (.cells #[.int .i64 a0_0, .string a0_1, .string a0_2, (.slice A0_3 l0_3.length c0_3)] 25 (0, 0))) ∧ Aside0 (wc.heap[gb159]? = some (.cells #[.string (⟨#[]⟩ : ByteArray), .string (⟨#[]⟩ : ByteArray)] 29 (0, 0))) ∧ Aside0 (Below w.heap.size w wc))
    case first =>
     have H := HC32.out
     clear HC32
     by_cases c33 : a0_1.toList = ([] : List UInt8)
     ·rw [if_pos c33] at H
      have c33b0 : (a0_1.toList == ([] : List UInt8)) = true := beq_iff_eq.mpr c33
      have c33b1 : (a0_1.toList != ([] : List UInt8)) = false := bne_eq_false_iff_eq.mpr c33
      clear c33
      (skip)
      by_cases c34 : a0_2.toList = ([] : List UInt8)
      ·rw [if_pos c34] at H
       have c34b0 : (a0_2.toList == ([] : List UInt8)) = true := beq_iff_eq.mpr c34
       have c34b1 : (a0_2.toList != ([] : List UInt8)) = false := bne_eq_false_iff_eq.mpr c34
       clear c34
       have H' := Aside0.mk H
       clear H
       have hnb35 := NB158_159.out
       have hnc35 := NB159_158.out
       have hcz36_0 : wc.cell? ⟨gb158, 0, none⟩ = some (.int .i64 a0_0) := (blk_cell BK158.out 0).trans rfl
       have hcz36_1 : wc.cell? ⟨gb158, 1, none⟩ = some (.string a0_1) := (blk_cell BK158.out 1).trans rfl
       have hcz36_2 : wc.cell? ⟨gb158, 2, none⟩ = some (.string a0_2) := (blk_cell BK158.out 2).trans rfl
       have hcz36_3 : wc.cell? ⟨gb158, 3, none⟩ = some (.slice A0_3 l0_3.length c0_3) := (blk_cell BK158.out 3).trans rfl
       have hfz36_0 := blk_frozen BK158.out 0
       have hfz36_1 := blk_frozen BK158.out 1
       have hfz36_2 := blk_frozen BK158.out 2
       have hfz36_3 := blk_frozen BK158.out 3
       go_wp2
       go_meet
       case rel => exact ⟨_, (false), (by rfl), H', ⟨by have := HJ1.out; omega⟩, ⟨by (with_reducible repeat (refine blk_drew ?_)); exact BK158.out⟩, ⟨by (with_reducible repeat (refine blk_drew ?_)); exact BK159.out⟩, ⟨by repeat ((with_reducible exact HB.out))⟩⟩
      ·rw [if_neg c34] at H
       have c34b0 : (a0_2.toList == ([] : List UInt8)) = false := beq_eq_false_iff_ne.mpr c34
       have c34b1 : (a0_2.toList != ([] : List UInt8)) = true := bne_iff_ne.mpr c34
       replace H := Option.bind_eq_some_iff.mp H
       obtain ⟨t161, A370, H⟩ := H
       replace H : (layout_Span.j1 kj1 (t161 != 0) a0_0 a0_1 a0_2 l0_3) = some (r1, r2, r3) := H
       have A37 := Aside0.mk A370
       clear A370
       have H' := Aside0.mk H
       clear H
       have hnb38 := NB158_159.out
       have hnc38 := NB159_158.out
       have hcz39_0 : wc.cell? ⟨gb158, 0, none⟩ = some (.int .i64 a0_0) := (blk_cell BK158.out 0).trans rfl
       have hcz39_1 : wc.cell? ⟨gb158, 1, none⟩ = some (.string a0_1) := (blk_cell BK158.out 1).trans rfl
       have hcz39_2 : wc.cell? ⟨gb158, 2, none⟩ = some (.string a0_2) := (blk_cell BK158.out 2).trans rfl
       have hcz39_3 : wc.cell? ⟨gb158, 3, none⟩ = some (.slice A0_3 l0_3.length c0_3) := (blk_cell BK158.out 3).trans rfl
       have hfz39_0 := blk_frozen BK158.out 0
       have hfz39_1 := blk_frozen BK158.out 1
       have hfz39_2 := blk_frozen BK158.out 2
       have hfz39_3 := blk_frozen BK158.out 3
       go_wp2_with ((go_at_call 30; (with_reducible refine (listing_Object.calls a0_2 t161 _ A37.out).mono ?_); rintro e w40 ⟨rfl, hb⟩; have n0_ := Aside0.mk (blk_below (g := gb158) (o := .cells #[.int .i64 a0_0, .string a0_1, .string a0_2, .slice A0_3 l0_3.length c0_3] 25 (0, 0)) (by (with_reducible repeat (refine blk_drew ?_)); exact BK158.out) hb); have n1_ := Aside0.mk (blk_below (g := gb159) (o := .cells #[.string (⟨#[]⟩ : ByteArray), .string (⟨#[]⟩ : ByteArray)] 29 (0, 0)) (by (with_reducible repeat (refine blk_drew ?_)); exact BK159.out) hb); have n2_ := Aside0.mk (below_step (by repeat ((with_reducible exact HB.out))) hb); clear BK158; clear BK159; clear HB; have BK158 := n0_; have BK159 := n1_; have HB := n2_; clear n0_ n1_ n2_; (try clear hb); (try clear hb2); (try clear hk); (try clear hi)))
       go_meet
       case rel => exact ⟨_, ((t161 != 0)), (by rfl), H', ⟨by have := HJ1.out; omega⟩, ⟨by (with_reducible repeat (refine blk_drew ?_)); exact BK158.out⟩, ⟨by (with_reducible repeat (refine blk_drew ?_)); exact BK159.out⟩, ⟨by repeat ((with_reducible exact HB.out))⟩⟩
     ·rw [if_neg c33] at H
      have c33b0 : (a0_1.toList == ([] : List UInt8)) = false := beq_eq_false_iff_ne.mpr c33
      have c33b1 : (a0_1.toList != ([] : List UInt8)) = true := bne_iff_ne.mpr c33
      (skip)
      replace H := Option.bind_eq_some_iff.mp H
      obtain ⟨t162, A410, H⟩ := H
      replace H : (if t162 = 0 then (if a0_2.toList = ([] : List UInt8) then (layout_Span.j1 kj1 false a0_0 a0_1 a0_2 l0_3) else ((listing_Object.f a0_2).bind fun t163 => (layout_Span.j1 kj1 (t163 != 0) a0_0 a0_1 a0_2 l0_3))) else (layout_Span.j1 kj1 true a0_0 a0_1 a0_2 l0_3)) = some (r1, r2, r3) := H
      have A41 := Aside0.mk A410
      clear A410
      by_cases c42 : t162 = 0
      ·rw [if_pos c42] at H
       have c42b0 : (t162 == 0) = true := beq_iff_eq.mpr c42
       have c42b1 : (t162 != 0) = false := bne_eq_false_iff_eq.mpr c42
       clear c42
       by_cases c43 : a0_2.toList = ([] : List UInt8)
       ·rw [if_pos c43] at H
        have c43b0 : (a0_2.toList == ([] : List UInt8)) = true := beq_iff_eq.mpr c43
        have c43b1 : (a0_2.toList != ([] : List UInt8)) = false := bne_eq_false_iff_eq.mpr c43
        clear c43
        have H' := Aside0.mk H
        clear H
        have hnb44 := NB158_159.out
        have hnc44 := NB159_158.out
        have hcz45_0 : wc.cell? ⟨gb158, 0, none⟩ = some (.int .i64 a0_0) := (blk_cell BK158.out 0).trans rfl
        have hcz45_1 : wc.cell? ⟨gb158, 1, none⟩ = some (.string a0_1) := (blk_cell BK158.out 1).trans rfl
        have hcz45_2 : wc.cell? ⟨gb158, 2, none⟩ = some (.string a0_2) := (blk_cell BK158.out 2).trans rfl
        have hcz45_3 : wc.cell? ⟨gb158, 3, none⟩ = some (.slice A0_3 l0_3.length c0_3) := (blk_cell BK158.out 3).trans rfl
        have hfz45_0 := blk_frozen BK158.out 0
        have hfz45_1 := blk_frozen BK158.out 1
        have hfz45_2 := blk_frozen BK158.out 2
        have hfz45_3 := blk_frozen BK158.out 3
        go_wp2_with ((go_at_call 29; (with_reducible refine (listing_Bucket.calls kj1 a0_1 t162 _ A41.out).mono ?_); rintro e w' ⟨rfl, ⟨nd, rfl⟩⟩))
        go_meet
        case rel => exact ⟨_, (false), (by rfl), H', ⟨by have := HJ1.out; omega⟩, ⟨by (with_reducible repeat (refine blk_drewN ?_ _)); exact BK158.out⟩, ⟨by (with_reducible repeat (refine blk_drewN ?_ _)); exact BK159.out⟩, ⟨by repeat ((with_reducible first | exact HB.out | apply pw_below_drewN))⟩⟩
       ·rw [if_neg c43] at H
        have c43b0 : (a0_2.toList == ([] : List UInt8)) = false := beq_eq_false_iff_ne.mpr c43
        have c43b1 : (a0_2.toList != ([] : List UInt8)) = true := bne_iff_ne.mpr c43
        replace H := Option.bind_eq_some_iff.mp H
        obtain ⟨t163, A460, H⟩ := H
        replace H : (layout_Span.j1 kj1 (t163 != 0) a0_0 a0_1 a0_2 l0_3) = some (r1, r2, r3) := H
        have A46 := Aside0.mk A460
        clear A460
        have H' := Aside0.mk H
        clear H
        have hnb47 := NB158_159.out
        have hnc47 := NB159_158.out
        have hcz48_0 : wc.cell? ⟨gb158, 0, none⟩ = some (.int .i64 a0_0) := (blk_cell BK158.out 0).trans rfl
        have hcz48_1 : wc.cell? ⟨gb158, 1, none⟩ = some (.string a0_1) := (blk_cell BK158.out 1).trans rfl
        have hcz48_2 : wc.cell? ⟨gb158, 2, none⟩ = some (.string a0_2) := (blk_cell BK158.out 2).trans rfl
        have hcz48_3 : wc.cell? ⟨gb158, 3, none⟩ = some (.slice A0_3 l0_3.length c0_3) := (blk_cell BK158.out 3).trans rfl
        have hfz48_0 := blk_frozen BK158.out 0
        have hfz48_1 := blk_frozen BK158.out 1
        have hfz48_2 := blk_frozen BK158.out 2
        have hfz48_3 := blk_frozen BK158.out 3
        go_wp2_with (first | (go_at_call 29; (with_reducible refine (listing_Bucket.calls kj1 a0_1 t162 _ A41.out).mono ?_); rintro e w' ⟨rfl, ⟨nd, rfl⟩⟩) | (go_at_call 30; (with_reducible refine (listing_Object.calls a0_2 t163 _ A46.out).mono ?_); rintro e w49 ⟨rfl, hb⟩; have n0_ := Aside0.mk (blk_below (g := gb158) (o := .cells #[.int .i64 a0_0, .string a0_1, .string a0_2, .slice A0_3 l0_3.length c0_3] 25 (0, 0)) (by (with_reducible repeat (refine blk_drewN ?_ _)); exact BK158.out) hb); have n1_ := Aside0.mk (blk_below (g := gb159) (o := .cells #[.string (⟨#[]⟩ : ByteArray), .string (⟨#[]⟩ : ByteArray)] 29 (0, 0)) (by (with_reducible repeat (refine blk_drewN ?_ _)); exact BK159.out) hb); have n2_ := Aside0.mk (below_step (by repeat ((with_reducible first | exact HB.out | apply pw_below_drewN))) hb); clear BK158; clear BK159; clear HB; have BK158 := n0_; have BK159 := n1_; have HB := n2_; clear n0_ n1_ n2_; (try clear hb); (try clear hb2); (try clear hk); (try clear hi)))
        go_meet
        case rel => exact ⟨_, ((t163 != 0)), (by rfl), H', ⟨by have := HJ1.out; omega⟩, ⟨by (with_reducible repeat (refine blk_drew ?_)); exact BK158.out⟩, ⟨by (with_reducible repeat (refine blk_drew ?_)); exact BK159.out⟩, ⟨by repeat ((with_reducible exact HB.out))⟩⟩
      ·rw [if_neg c42] at H
       have c42b0 : (t162 == 0) = false := beq_eq_false_iff_ne.mpr c42
       have c42b1 : (t162 != 0) = true := bne_iff_ne.mpr c42
       have H' := Aside0.mk H
       clear H
       have hnb50 := NB158_159.out
       have hnc50 := NB159_158.out
       have hcz51_0 : wc.cell? ⟨gb158, 0, none⟩ = some (.int .i64 a0_0) := (blk_cell BK158.out 0).trans rfl
       have hcz51_1 : wc.cell? ⟨gb158, 1, none⟩ = some (.string a0_1) := (blk_cell BK158.out 1).trans rfl
       have hcz51_2 : wc.cell? ⟨gb158, 2, none⟩ = some (.string a0_2) := (blk_cell BK158.out 2).trans rfl
       have hcz51_3 : wc.cell? ⟨gb158, 3, none⟩ = some (.slice A0_3 l0_3.length c0_3) := (blk_cell BK158.out 3).trans rfl
       have hfz51_0 := blk_frozen BK158.out 0
       have hfz51_1 := blk_frozen BK158.out 1
       have hfz51_2 := blk_frozen BK158.out 2
       have hfz51_3 := blk_frozen BK158.out 3
       go_wp2_with ((go_at_call 29; (with_reducible refine (listing_Bucket.calls kj1 a0_1 t162 _ A41.out).mono ?_); rintro e w' ⟨rfl, ⟨nd, rfl⟩⟩))
       go_meet
       case rel => exact ⟨_, (true), (by rfl), H', ⟨by have := HJ1.out; omega⟩, ⟨by (with_reducible repeat (refine blk_drewN ?_ _)); exact BK158.out⟩, ⟨by (with_reducible repeat (refine blk_drewN ?_ _)); exact BK159.out⟩, ⟨by repeat ((with_reducible first | exact HB.out | apply pw_below_drewN))⟩⟩
    case rest =>
     clear HC32
     try clear c1
     try clear c2
     try clear p2
     try clear c3
     try clear c4
     try clear c5
     try clear c6
     try clear c7
     try clear c7b0
     try clear c7b1
     try clear c8
     try clear c8b0
     try clear c8b1
     try clear c9
     try clear c10
     try clear c13
     try clear c17
     try clear c17b0
     try clear c17b1
     try clear c18
     try clear c22
     try clear c26
     try clear c28
     try clear c29
     try clear c30
     try clear c33
     try clear c33b0
     try clear c33b1
     try clear c34
     try clear c34b0
     try clear c34b1
     try clear c35
     try clear c38
     try clear c42
     try clear c42b0
     try clear c42b1
     try clear c43
     try clear c43b0
     try clear c43b1
     try clear c44
     try clear c47
     try clear c50
     try clear hcz10_0
     try clear hcz10_1
     try clear hcz10_2
     try clear hcz10_3
     try clear hcz12_0
     try clear hcz12_1
     try clear hcz12_2
     try clear hcz12_3
     try clear hcz14_0
     try clear hcz14_1
     try clear hcz14_2
     try clear hcz14_3
     try clear hcz16_0
     try clear hcz16_1
     try clear hcz16_2
     try clear hcz16_3
     try clear hcz19_0
     try clear hcz19_1
     try clear hcz19_2
     try clear hcz19_3
     try clear hcz21_0
     try clear hcz21_1
     try clear hcz21_2
     try clear hcz21_3
     try clear hcz23_0
     try clear hcz23_1
     try clear hcz23_2
     try clear hcz23_3
     try clear hcz25_0
     try clear hcz25_1
     try clear hcz25_2
     try clear hcz25_3
     try clear hcz27_0
     try clear hcz27_1
     try clear hcz27_2
     try clear hcz27_3
     try clear hcz31_0
     try clear hcz31_1
     try clear hcz36_0
     try clear hcz36_1
     try clear hcz36_2
     try clear hcz36_3
     try clear hcz39_0
     try clear hcz39_1
     try clear hcz39_2
     try clear hcz39_3
     try clear hcz45_0
     try clear hcz45_1
     try clear hcz45_2
     try clear hcz45_3
     try clear hcz48_0
     try clear hcz48_1
     try clear hcz48_2
     try clear hcz48_3
     try clear hcz51_0
     try clear hcz51_1
     try clear hcz51_2
     try clear hcz51_3
     try clear hfz10_0
     try clear hfz10_1
     try clear hfz10_2
     try clear hfz10_3
     try clear hfz12_0
     try clear hfz12_1
     try clear hfz12_2
     try clear hfz12_3
     try clear hfz14_0
     try clear hfz14_1
     try clear hfz14_2
     try clear hfz14_3
     try clear hfz16_0
     try clear hfz16_1
     try clear hfz16_2
     try clear hfz16_3
     try clear hfz19_0
     try clear hfz19_1
     try clear hfz19_2
     try clear hfz19_3
     try clear hfz21_0
     try clear hfz21_1
     try clear hfz21_2
     try clear hfz21_3
     try clear hfz23_0
     try clear hfz23_1
     try clear hfz23_2
     try clear hfz23_3
     try clear hfz25_0
     try clear hfz25_1
     try clear hfz25_2
     try clear hfz25_3
     try clear hfz27_0
     try clear hfz27_1
     try clear hfz27_2
     try clear hfz27_3
     try clear hfz31_0
     try clear hfz31_1
     try clear hfz36_0
     try clear hfz36_1
     try clear hfz36_2
     try clear hfz36_3
     try clear hfz39_0
     try clear hfz39_1
     try clear hfz39_2
     try clear hfz39_3
     try clear hfz45_0
     try clear hfz45_1
     try clear hfz45_2
     try clear hfz45_3
     try clear hfz48_0
     try clear hfz48_1
     try clear hfz48_2
     try clear hfz48_3
     try clear hfz51_0
     try clear hfz51_1
     try clear hfz51_2
     try clear hfz51_3
     try clear p2
     obtain ⟨kq, x49_31, rfl, HA, HJ31, BK158, BK159, HB⟩ := hcut
     cases kq with
     | zero => exact absurd HA.out (by simp [layout_Span.j1])
     | succ kj31 =>
      have H := HA.out
      clear HA
      simp only [layout_Span.j1] at H
      by_cases c52 : x49_31 = true
      ·subst c52
       have H1 : (some ((⟨#[]⟩ : ByteArray), (⟨#[]⟩ : ByteArray), 15)) = some (r1, r2, r3) := by rw [if_pos rfl] at H; exact H
       clear H
       have H := H1
       clear H1
       simp only [Option.some.injEq, Prod.mk.injEq] at H
       obtain ⟨rfl, rfl, rfl⟩ := H
       have hnb53 := NB159_158.out
       have hnc53 := NB158_159.out
       have hcz54_0 : wc.cell? ⟨gb159, 0, none⟩ = some (.string (⟨#[]⟩ : ByteArray)) := (blk_cell BK159.out 0).trans rfl
       have hcz54_1 : wc.cell? ⟨gb159, 1, none⟩ = some (.string (⟨#[]⟩ : ByteArray)) := (blk_cell BK159.out 1).trans rfl
       have hfz54_0 := blk_frozen BK159.out 0
       have hfz54_1 := blk_frozen BK159.out 1
       go_wp2
       refine bodyPost_ret (results_ct rfl _ _ gb159 29 #[.string (⟨#[]⟩ : ByteArray), .string (⟨#[]⟩ : ByteArray)] (0, 0) _ rfl (by (with_reducible repeat (refine blk_drew ?_)); refine blk_put (cs := #[.string (⟨#[]⟩ : ByteArray), .string (⟨#[]⟩ : ByteArray)]) ?_ 1 _ rfl; (with_reducible repeat (refine blk_drew ?_)); refine blk_put (cs := #[.string (⟨#[]⟩ : ByteArray), .string (⟨#[]⟩ : ByteArray)]) ?_ 0 _ rfl; (with_reducible repeat (refine blk_drew ?_)); exact BK159.out) Tryd.underlying29 rfl (by kernel_rfl)) rfl ?_
       exact ⟨by rfl, by repeat ((with_reducible first | exact HB.out | refine below_set ?_ GE159.out))⟩
      ·replace c52 := Bool.eq_false_iff.mpr c52
       subst c52
       have H1 : ((layout_encode.f kj31 a0_0 a0_1 a0_2 l0_3 (([a0_1, a0_2] : List ByteArray))).bind fun t167 => ((tuple_Behind.f t167).bind fun t168 => (some (t167, t168, 0)))) = some (r1, r2, r3) := by rw [if_neg (show ¬ (false = true) by decide)] at H; exact H
       clear H
       have H := H1
       clear H1
       obtain ⟨y164, hy164⟩ : ∃ y_ : List ByteArray, y_ = (([a0_1, a0_2] : List ByteArray)) := ⟨_, rfl⟩
       replace H : ((layout_encode.f kj31 a0_0 a0_1 a0_2 l0_3 y164).bind fun t167 => ((tuple_Behind.f t167).bind fun t168 => (some (t167, t168, 0)))) = some (r1, r2, r3) := by (rw [hy164]; with_reducible exact H)
       have Ny164 := Aside0.mk hy164
       clear hy164
       replace H := Option.bind_eq_some_iff.mp H
       obtain ⟨t167, A550, H⟩ := H
       replace H : ((tuple_Behind.f t167).bind fun t168 => (some (t167, t168, 0))) = some (r1, r2, r3) := H
       have A55 := Aside0.mk A550
       clear A550
       replace H := Option.bind_eq_some_iff.mp H
       obtain ⟨t168, A560, H⟩ := H
       replace H : (some (t167, t168, 0)) = some (r1, r2, r3) := H
       have A56 := Aside0.mk A560
       clear A560
       simp only [Option.some.injEq, Prod.mk.injEq] at H
       obtain ⟨rfl, rfl, rfl⟩ := H
       have hnb57 := NB158_159.out
       have hnc57 := NB159_158.out
       have hcz58_0 : wc.cell? ⟨gb158, 0, none⟩ = some (.int .i64 a0_0) := (blk_cell BK158.out 0).trans rfl
       have hcz58_1 : wc.cell? ⟨gb158, 1, none⟩ = some (.string a0_1) := (blk_cell BK158.out 1).trans rfl
       have hcz58_2 : wc.cell? ⟨gb158, 2, none⟩ = some (.string a0_2) := (blk_cell BK158.out 2).trans rfl
       have hcz58_3 : wc.cell? ⟨gb158, 3, none⟩ = some (.slice A0_3 l0_3.length c0_3) := (blk_cell BK158.out 3).trans rfl
       have hfz58_0 := blk_frozen BK158.out 0
       have hfz58_1 := blk_frozen BK158.out 1
       have hfz58_2 := blk_frozen BK158.out 2
       have hfz58_3 := blk_frozen BK158.out 3
       go_wp2_with (first | ((with_reducible refine gate_dst (N := 56) rfl ?_); (try (refine gate_guard (by rfl) ?_; dsimp only)); refine Kd.R_lit Kd.string _ 9 ?hg (N := 56) ?hd (xs := ([a0_1, a0_2] : List ByteArray)) (inner := [.string a0_1, .string a0_2]) (ok := fun _ => True) (okp := fun _ => True) ?hr ?hp (fun _ hk => hk) trivial (Below.refl _ _) (Nat.le_refl _) (by simp) ?_; (case hd => rfl); (case hg => rfl); (case hr => (go_simp; done)); (case hp => exact (Reps.one (show Kd.M Kd.string _ _ _ a0_1 [.string a0_1] from rfl) (Reps.one (show Kd.M Kd.string _ _ _ a0_2 [.string a0_2] from rfl) (Reps.none _ _)))); intro v165 w59 ho60 hb hg_ hnew_; clear hg_ hnew_; (rw [← Ny164.out] at ho60); have n0_ := Aside0.mk (Kd.R_lower ho60 (below_size (by repeat ((with_reducible exact HB.out))))); have n1_ := Aside0.mk (blk_below (g := gb158) (o := .cells #[.int .i64 a0_0, .string a0_1, .string a0_2, .slice A0_3 l0_3.length c0_3] 25 (0, 0)) (by (with_reducible repeat (refine blk_drew ?_)); exact BK158.out) hb); have n2_ := Aside0.mk (blk_below (g := gb159) (o := .cells #[.string (⟨#[]⟩ : ByteArray), .string (⟨#[]⟩ : ByteArray)] 29 (0, 0)) (by (with_reducible repeat (refine blk_drew ?_)); exact BK159.out) hb); have n3_ := Aside0.mk (below_step (by repeat ((with_reducible exact HB.out))) hb); clear BK158; clear BK159; clear HB; have HO166 := n0_; have BK158 := n1_; have BK159 := n2_; have HB := n3_; clear n0_ n1_ n2_ n3_; clear hb ho60; obtain ⟨Ao61, co61, eo61⟩ := Kd.R_slice HO166.out; subst eo61) | ((with_reducible refine gate_callee (f := 31) rfl ?_); refine goesL_ (some 57) rfl rfl Tryd.func31 (by kernel_rfl) rfl #[.agg #[.int .i64 a0_0, .string a0_1, .string a0_2, .slice A0_3 l0_3.length c0_3], .slice Ao61 y164.length co61] rfl (by (try simp only [List.map_toArray, List.map_cons, List.map_nil]); rfl) ?_; (with_reducible refine (layout_encode.calls kj31 a0_0 a0_1 a0_2 _ _ l0_3 _ _ y164 t167 _ ?side1 ?side2 ?side3 ?side4 A55.out).mono ?_); (case side1 => repeat (exact (Kd.C_below HR0_3.out HB.out))); (case side2 => exact HC0_3.out); (case side3 => repeat (exact (Kd.R_reads' HO166.out).2.2)); (case side4 => exact (Kd.R_reads' HO166.out).2.1); rintro e w62 ⟨rfl, hb⟩; refine ⟨_, rfl, ?_⟩; have n0_ := Aside0.mk (Kd.R_below (by (with_reducible repeat (apply Kd.R_drew)); exact HO166.out) hb); have n1_ := Aside0.mk (blk_below (g := gb158) (o := .cells #[.int .i64 a0_0, .string a0_1, .string a0_2, .slice A0_3 l0_3.length c0_3] 25 (0, 0)) (by (with_reducible repeat (refine blk_drew ?_)); exact BK158.out) hb); have n2_ := Aside0.mk (blk_below (g := gb159) (o := .cells #[.string (⟨#[]⟩ : ByteArray), .string (⟨#[]⟩ : ByteArray)] 29 (0, 0)) (by (with_reducible repeat (refine blk_drew ?_)); exact BK159.out) hb); have n3_ := Aside0.mk (below_step (by repeat ((with_reducible exact HB.out))) hb); clear HO166; clear BK158; clear BK159; clear HB; have HO166 := n0_; have BK158 := n1_; have BK159 := n2_; have HB := n3_; clear n0_ n1_ n2_ n3_; (try clear hb); (try clear hb2); (try clear hk); (try clear hi)) | ((with_reducible refine gate_callee (f := 32) rfl ?_); refine goesL_ (some 60) rfl rfl Tryd.func32 (by kernel_rfl) rfl #[.string t167] rfl (by (try simp only [List.map_toArray, List.map_cons, List.map_nil]); rfl) ?_; (with_reducible refine (tuple_Behind.calls t167 t168 _ A56.out).mono ?_); rintro e w' ⟨rfl, ⟨nd, rfl⟩⟩; refine ⟨_, rfl, ?_⟩; (try (rw [drewN_self w62]; generalize hq_ : World.drewN w62 _ = w62; have n0_ : Aside0 (Kd.R Kd.string 9 w62 w.heap.size (fun _ => True) (.slice Ao61 y164.length co61) y164) := ⟨by rw [← hq_]; exact (by (with_reducible repeat (apply Kd.R_drewN)); exact HO166.out)⟩; have n1_ : Aside0 (w62.heap[gb158]? = some (.cells #[.int .i64 a0_0, .string a0_1, .string a0_2, .slice A0_3 l0_3.length c0_3] 25 (0, 0))) := ⟨by rw [← hq_]; exact (by (with_reducible repeat (refine blk_drewN ?_ _)); exact BK158.out)⟩; have n2_ : Aside0 (w62.heap[gb159]? = some (.cells #[.string (⟨#[]⟩ : ByteArray), .string (⟨#[]⟩ : ByteArray)] 29 (0, 0))) := ⟨by rw [← hq_]; exact (by (with_reducible repeat (refine blk_drewN ?_ _)); exact BK159.out)⟩; have n3_ : Aside0 (Below w.heap.size w w62) := ⟨by rw [← hq_]; exact (by repeat ((with_reducible first | exact HB.out | apply pw_below_drewN)))⟩; clear HO166 BK158 BK159 HB hq_; have HO166 := n0_; have BK158 := n1_; have BK159 := n2_; have HB := n3_; clear n0_ n1_ n2_ n3_)); have hcz63_0 : w62.cell? ⟨gb159, 0, none⟩ = some (.string (⟨#[]⟩ : ByteArray)) := (blk_cell BK159.out 0).trans rfl; have hcz63_1 : w62.cell? ⟨gb159, 1, none⟩ = some (.string (⟨#[]⟩ : ByteArray)) := (blk_cell BK159.out 1).trans rfl; have hfz63_0 := blk_frozen BK159.out 0; have hfz63_1 := blk_frozen BK159.out 1))
       refine bodyPost_ret (results_ct rfl _ _ gb159 29 #[.string t167, .string t168] (0, 0) _ rfl (by (with_reducible repeat (refine blk_drew ?_)); refine blk_put (cs := #[.string t167, .string (⟨#[]⟩ : ByteArray)]) ?_ 1 _ rfl; (with_reducible repeat (refine blk_drew ?_)); refine blk_put (cs := #[.string (⟨#[]⟩ : ByteArray), .string (⟨#[]⟩ : ByteArray)]) ?_ 0 _ rfl; (with_reducible repeat (refine blk_drew ?_)); exact BK159.out) Tryd.underlying29 rfl (by kernel_rfl)) rfl ?_
       exact ⟨by rfl, by repeat ((with_reducible first | exact HB.out | refine below_set ?_ GE159.out))⟩

end Go.Proofs.YtbdfmjgndeigpaaDoor.P
