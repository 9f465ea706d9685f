-- by xprint (this session's program over the kit's printer)
import Derived.Test.YtbdfmjgndeigpaaDoorPx0
import Derived.Test.YtbdfmjgndeigpaaDoorPx1
import Derived.Test.YtbdfmjgndeigpaaDoorPx9
import Derived.Test.YtbdfmjgndeigpaaDoorPx10
import Derived.Test.YtbdfmjgndeigpaaDoorPx13
import Derived.Test.YtbdfmjgndeigpaaDoorPx14
import Derived.Test.YtbdfmjgndeigpaaDoorPx15
namespace Go.Proofs.YtbdfmjgndeigpaaDoor.P
open Go.RowKit Go.Proofs.YtbdfmjgndeigpaaDoorW.PrintWords Go.Proofs.YtbdfmjgndeigpaaDoorW.PrintLast Go.Proofs.YtbdfmjgndeigpaaDoorW.PrintMore
attribute [local go_sem] max2_int min2_int max_two min_two max_three min_three max_four min_four   -- for this text's walks alone
set_option linter.unusedVariables false
set_option linter.unusedSimpArgs false

attribute [local go_sem high] eqA29
/-! ### w21_lives: function 9 -/
def w21_lives.f (k : Nat)  : Option (Bool) := (layout_Key.f k 1 (⟨#[97, 98, 99]⟩ : ByteArray) (⟨#[]⟩ : ByteArray) ([] : List Int)).bind fun bt214 => ((layout_Span.f k 2 (⟨#[97, 98, 99]⟩ : ByteArray) (⟨#[]⟩ : ByteArray) ([] : List Int)).bind fun bt216 => ((layout_Head.f k 0 0 0 false false).bind fun bt220 => ((layout_ReadVersion.f (⟨#[48, 49, 50]⟩ : ByteArray)).bind fun bt222 => (if bt214.1.toList = ([2, 98, 0, 1, 2, 97, 98, 99, 0, 1] : List UInt8) then (if bt214.2 = 0 then (if (bt216.1.toList == ([2, 111, 0, 1, 2, 97, 98, 99, 0, 1] : List UInt8) && (bt216.2.1.toList == ([2, 111, 0, 1, 2, 97, 98, 99, 0, 1, 255] : List UInt8))) = true then (if bt216.2.2 = 0 then (if bt220.1.toList = ([0, 0, 0, 0, 0, 0, 0, 0, 0, 0, 0] : List UInt8) then (if bt220.2 = 0 then ((layout_Version.f 12 false).bind fun t225 => (if t225.toList = ([49, 50] : List UInt8) then (some (bt222.2.2 == 4)) else (none))) else (none)) else (none)) else (none)) else (none)) else (none)) else (none)))))
theorem w21_lives.mono : ∀ k, LeO (w21_lives.f k ) (w21_lives.f (k + 1) ) := by
 intro  k
 unfold w21_lives.f
 repeat' first
   | (with_reducible exact layout_Head.mono _ _ _ _ _ _)
   | (with_reducible exact layout_Key.mono _ _ _ _ _)
   | (with_reducible exact layout_Span.mono _ _ _ _ _)
   | (with_reducible exact LeO.refl _)
   | (with_reducible exact LeO.none _)
   | (with_reducible refine LeO.ite ?_ ?_)
   | (with_reducible refine LeO.bind ?_ (fun _ => ?_))
   | exact layout_Head.mono _ _ _ _ _ _
   | exact layout_Key.mono _ _ _ _ _
   | exact layout_Span.mono _ _ _ _ _
   | exact LeO.none _
   | refine LeO.ite ?_ ?_
   | refine LeO.bind ?_ (fun _ => ?_)
set_option maxHeartbeats 8000000 in
set_option maxRecDepth 100000 in
theorem w21_lives.calls (k : Nat)  (r : Bool) (w : World) (h : w21_lives.f k  = some r) (hL : TabsAt w) :
  Calls Tryd.prog 9 #[] w fun e w' => e = .returned (.bool r) ∧ Below w.heap.size w w' := by
 have hu25 := Tryd.underlying25
 have hu29 := Tryd.underlying29
 have hu40 := Tryd.underlying40
 have HB := Aside0.mk (Below.refl w.heap.size w)
 have H : ((layout_Key.f k 1 (⟨#[97, 98, 99]⟩ : ByteArray) (⟨#[]⟩ : ByteArray) ([] : List Int)).bind fun bt214 => ((layout_Span.f k 2 (⟨#[97, 98, 99]⟩ : ByteArray) (⟨#[]⟩ : ByteArray) ([] : List Int)).bind fun bt216 => ((layout_Head.f k 0 0 0 false false).bind fun bt220 => ((layout_ReadVersion.f (⟨#[48, 49, 50]⟩ : ByteArray)).bind fun bt222 => (if bt214.1.toList = ([2, 98, 0, 1, 2, 97, 98, 99, 0, 1] : List UInt8) then (if bt214.2 = 0 then (if (bt216.1.toList == ([2, 111, 0, 1, 2, 97, 98, 99, 0, 1] : List UInt8) && (bt216.2.1.toList == ([2, 111, 0, 1, 2, 97, 98, 99, 0, 1, 255] : List UInt8))) = true then (if bt216.2.2 = 0 then (if bt220.1.toList = ([0, 0, 0, 0, 0, 0, 0, 0, 0, 0, 0] : List UInt8) then (if bt220.2 = 0 then ((layout_Version.f 12 false).bind fun t225 => (if t225.toList = ([49, 50] : List UInt8) then (some (bt222.2.2 == 4)) else (none))) else (none)) else (none)) else (none)) else (none)) else (none)) else (none)))))) = some r := h
 clear h
 replace H := Option.bind_eq_some_iff.mp H
 obtain ⟨⟨t214, t215⟩, A10, H⟩ := H
 replace H : ((layout_Span.f k 2 (⟨#[97, 98, 99]⟩ : ByteArray) (⟨#[]⟩ : ByteArray) ([] : List Int)).bind fun bt216 => ((layout_Head.f k 0 0 0 false false).bind fun bt220 => ((layout_ReadVersion.f (⟨#[48, 49, 50]⟩ : ByteArray)).bind fun bt222 => (if t214.toList = ([2, 98, 0, 1, 2, 97, 98, 99, 0, 1] : List UInt8) then (if t215 = 0 then (if (bt216.1.toList == ([2, 111, 0, 1, 2, 97, 98, 99, 0, 1] : List UInt8) && (bt216.2.1.toList == ([2, 111, 0, 1, 2, 97, 98, 99, 0, 1, 255] : List UInt8))) = true then (if bt216.2.2 = 0 then (if bt220.1.toList = ([0, 0, 0, 0, 0, 0, 0, 0, 0, 0, 0] : List UInt8) then (if bt220.2 = 0 then ((layout_Version.f 12 false).bind fun t225 => (if t225.toList = ([49, 50] : List UInt8) then (some (bt222.2.2 == 4)) else (none))) else (none)) else (none)) else (none)) else (none)) else (none)) else (none))))) = some r := H
 have A1 := Aside0.mk A10
 clear A10
 replace H := Option.bind_eq_some_iff.mp H
 obtain ⟨⟨t216, t217, t218⟩, A20, H⟩ := H
 replace H : ((layout_Head.f k 0 0 0 false false).bind fun bt220 => ((layout_ReadVersion.f (⟨#[48, 49, 50]⟩ : ByteArray)).bind fun bt222 => (if t214.toList = ([2, 98, 0, 1, 2, 97, 98, 99, 0, 1] : List UInt8) then (if t215 = 0 then (if (t216.toList == ([2, 111, 0, 1, 2, 97, 98, 99, 0, 1] : List UInt8) && (t217.toList == ([2, 111, 0, 1, 2, 97, 98, 99, 0, 1, 255] : List UInt8))) = true then (if t218 = 0 then (if bt220.1.toList = ([0, 0, 0, 0, 0, 0, 0, 0, 0, 0, 0] : List UInt8) then (if bt220.2 = 0 then ((layout_Version.f 12 false).bind fun t225 => (if t225.toList = ([49, 50] : List UInt8) then (some (bt222.2.2 == 4)) else (none))) else (none)) else (none)) else (none)) else (none)) else (none)) else (none)))) = some r := H
 have A2 := Aside0.mk A20
 clear A20
 replace H := Option.bind_eq_some_iff.mp H
 obtain ⟨⟨t220, t221⟩, A30, H⟩ := H
 replace H : ((layout_ReadVersion.f (⟨#[48, 49, 50]⟩ : ByteArray)).bind fun bt222 => (if t214.toList = ([2, 98, 0, 1, 2, 97, 98, 99, 0, 1] : List UInt8) then (if t215 = 0 then (if (t216.toList == ([2, 111, 0, 1, 2, 97, 98, 99, 0, 1] : List UInt8) && (t217.toList == ([2, 111, 0, 1, 2, 97, 98, 99, 0, 1, 255] : List UInt8))) = true then (if t218 = 0 then (if t220.toList = ([0, 0, 0, 0, 0, 0, 0, 0, 0, 0, 0] : List UInt8) then (if t221 = 0 then ((layout_Version.f 12 false).bind fun t225 => (if t225.toList = ([49, 50] : List UInt8) then (some (bt222.2.2 == 4)) else (none))) else (none)) else (none)) else (none)) else (none)) else (none)) else (none))) = some r := H
 have A3 := Aside0.mk A30
 clear A30
 replace H := Option.bind_eq_some_iff.mp H
 obtain ⟨⟨t222, t223, t224⟩, A40, H⟩ := H
 replace H : (if t214.toList = ([2, 98, 0, 1, 2, 97, 98, 99, 0, 1] : List UInt8) then (if t215 = 0 then (if (t216.toList == ([2, 111, 0, 1, 2, 97, 98, 99, 0, 1] : List UInt8) && (t217.toList == ([2, 111, 0, 1, 2, 97, 98, 99, 0, 1, 255] : List UInt8))) = true then (if t218 = 0 then (if t220.toList = ([0, 0, 0, 0, 0, 0, 0, 0, 0, 0, 0] : List UInt8) then (if t221 = 0 then ((layout_Version.f 12 false).bind fun t225 => (if t225.toList = ([49, 50] : List UInt8) then (some (t224 == 4)) else (none))) else (none)) else (none)) else (none)) else (none)) else (none)) else (none)) = some r := H
 have A4 := Aside0.mk A40
 clear A40
 by_cases c5 : t214.toList = ([2, 98, 0, 1, 2, 97, 98, 99, 0, 1] : List UInt8)
 ·rw [if_pos c5] at H
  have c5b0 : (t214.toList == ([2, 98, 0, 1, 2, 97, 98, 99, 0, 1] : List UInt8)) = true := beq_iff_eq.mpr c5
  have c5b1 : (t214.toList != ([2, 98, 0, 1, 2, 97, 98, 99, 0, 1] : List UInt8)) = false := bne_eq_false_iff_eq.mpr c5
  clear c5
  by_cases c6 : t215 = 0
  ·rw [if_pos c6] at H
   have c6b0 : (t215 == 0) = true := beq_iff_eq.mpr c6
   have c6b1 : (t215 != 0) = false := bne_eq_false_iff_eq.mpr c6
   clear c6
   by_cases c7 : (t216.toList == ([2, 111, 0, 1, 2, 97, 98, 99, 0, 1] : List UInt8) && (t217.toList == ([2, 111, 0, 1, 2, 97, 98, 99, 0, 1, 255] : List UInt8))) = true
   ·rw [if_pos c7] at H
    have c7b0 : (t216.toList == ([2, 111, 0, 1, 2, 97, 98, 99, 0, 1] : List UInt8) && (t217.toList == ([2, 111, 0, 1, 2, 97, 98, 99, 0, 1, 255] : List UInt8))) = true := c7
    (try (have c7b1 : decide (t216.toList = ([2, 111, 0, 1, 2, 97, 98, 99, 0, 1] : List UInt8) && (t217.toList == ([2, 111, 0, 1, 2, 97, 98, 99, 0, 1, 255] : List UInt8))) = true := by simpa using c7))
    (try (have c7b2 : (t216.toList == ([2, 111, 0, 1, 2, 97, 98, 99, 0, 1] : List UInt8) && (t217.toList == ([2, 111, 0, 1, 2, 97, 98, 99, 0, 1, 255] : List UInt8))) = true := by simpa using c7))
    clear c7
    by_cases c8 : t218 = 0
    ·rw [if_pos c8] at H
     have c8b0 : (t218 == 0) = true := beq_iff_eq.mpr c8
     have c8b1 : (t218 != 0) = false := bne_eq_false_iff_eq.mpr c8
     clear c8
     by_cases c9 : t220.toList = ([0, 0, 0, 0, 0, 0, 0, 0, 0, 0, 0] : List UInt8)
     ·rw [if_pos c9] at H
      have c9b0 : (t220.toList == ([0, 0, 0, 0, 0, 0, 0, 0, 0, 0, 0] : List UInt8)) = true := beq_iff_eq.mpr c9
      have c9b1 : (t220.toList != ([0, 0, 0, 0, 0, 0, 0, 0, 0, 0, 0] : List UInt8)) = false := bne_eq_false_iff_eq.mpr c9
      clear c9
      by_cases c10 : t221 = 0
      ·rw [if_pos c10] at H
       have c10b0 : (t221 == 0) = true := beq_iff_eq.mpr c10
       have c10b1 : (t221 != 0) = false := bne_eq_false_iff_eq.mpr c10
       clear c10
       replace H := Option.bind_eq_some_iff.mp H
       obtain ⟨t225, A110, H⟩ := H
       replace H : (if t225.toList = ([49, 50] : List UInt8) then (some (t224 == 4)) else (none)) = some r := H
       have A11 := Aside0.mk A110
       clear A110
       by_cases c12 : t225.toList = ([49, 50] : List UInt8)
       ·rw [if_pos c12] at H
        have c12b0 : (t225.toList == ([49, 50] : List UInt8)) = true := beq_iff_eq.mpr c12
        have c12b1 : (t225.toList != ([49, 50] : List UInt8)) = false := bne_eq_false_iff_eq.mpr c12
        clear c12
        obtain rfl := Option.some.inj H
        go_enter Tryd.func9, Tryd.ntmps9
        go_wp2_with (first | ((with_reducible refine gate_callee (f := 11) rfl ?_); refine goesL_ (some 12) rfl rfl Tryd.func11 (by kernel_rfl) rfl #[.agg #[.int .i64 1, .string (⟨#[97, 98, 99]⟩ : ByteArray), .string (⟨#[]⟩ : ByteArray), .slice none 0 0]] rfl (by (try simp only [List.map_toArray, List.map_cons, List.map_nil]); first | done | rfl | (simp only [List.length_drop, List.length_take]; rfl)) ?_; (refine (layout_Key.calls k 1 (⟨#[97, 98, 99]⟩ : ByteArray) (⟨#[]⟩ : ByteArray) _ _ ([] : List Int) t214 t215 _ ?side1 ?side2 A1.out).mono ?_); (case side1 => exact Kd.C_nil _ _); (case side2 => exact Nat.le_refl _); rintro e w13 ⟨rfl, hb⟩; refine ⟨_, rfl, ?_⟩; have n0_ := Aside0.mk (below_step (by repeat (first | (with_reducible first | exact HB.out | apply below_alloc | apply pw_below_drewN | apply below_drew1) | exact HB.out)) hb); clear HB; have HB := n0_; clear n0_; (try clear hb); (try clear hb2); (try clear hk); (try clear hi)) | ((with_reducible refine gate_callee (f := 10) rfl ?_); refine goesL_ (some 17) rfl rfl Tryd.func10 (by kernel_rfl) rfl #[.agg #[.int .i64 2, .string (⟨#[97, 98, 99]⟩ : ByteArray), .string (⟨#[]⟩ : ByteArray), .slice none 0 0]] rfl (by (try simp only [List.map_toArray, List.map_cons, List.map_nil]); first | done | rfl | (simp only [List.length_drop, List.length_take]; rfl)) ?_; (refine (layout_Span.calls k 2 (⟨#[97, 98, 99]⟩ : ByteArray) (⟨#[]⟩ : ByteArray) _ _ ([] : List Int) t216 t217 t218 _ ?side1 ?side2 A2.out).mono ?_); (case side1 => exact Kd.C_nil _ _); (case side2 => exact Nat.le_refl _); rintro e w14 ⟨rfl, hb⟩; refine ⟨_, rfl, ?_⟩; have n0_ := Aside0.mk (below_step (by repeat (first | (with_reducible first | exact HB.out | apply below_alloc | apply pw_below_drewN | apply below_drew1) | exact HB.out)) hb); clear HB; have HB := n0_; clear n0_; (try clear hb); (try clear hb2); (try clear hk); (try clear hi)) | ((with_reducible refine gate_dst (N := 3) rfl ?_); refine box_event ?hg (N := 3) ?hd (cs := #[.string (⟨#[]⟩ : ByteArray), .string (⟨#[]⟩ : ByteArray)]) (t := 29) ?hr ?_; (case hd => rfl); (case hg => rfl); (case hr => first | (go_simp; done) | (go_simp; rfl)); intro gb219 hg w15 hbox hb; have n0_ := Aside0.mk (below_step (by repeat (first | (with_reducible first | exact HB.out | apply below_alloc | apply pw_below_drewN | apply below_drew1) | exact HB.out)) hb); have n1_ := Aside0.mk (hbox); have n2_ := Aside0.mk ((by rw [hg]; exact (below_size (by repeat (first | (with_reducible first | exact HB.out | apply below_alloc | apply pw_below_drewN | apply below_drew1) | exact HB.out))) : w.heap.size ≤ gb219)); have n3_ := Aside0.mk ((by rw [hg]; exact (below_size (by repeat (first | (with_reducible first | exact HB.out | apply below_alloc | apply pw_below_drewN | apply below_drew1) | exact HB.out))) : w.heap.size ≤ gb219)); clear HB; have HB := n0_; have BK219 := n1_; have GW219 := n2_; have GE219 := n3_; clear n0_ n1_ n2_ n3_; clear hb hbox hg; have hcz16_0 : w15.cell? ⟨gb219, 0, none⟩ = some (.string (⟨#[]⟩ : ByteArray)) := (blk_cell BK219.out 0).trans rfl; have hcz16_1 : w15.cell? ⟨gb219, 1, none⟩ = some (.string (⟨#[]⟩ : ByteArray)) := (blk_cell BK219.out 1).trans rfl; have hfz16_0 := blk_frozen BK219.out 0; have hfz16_1 := blk_frozen BK219.out 1) | ((with_reducible refine gate_callee (f := 13) rfl ?_); refine goesL_ (some 22) rfl rfl Tryd.func13 (by kernel_rfl) rfl #[.agg #[.int .i64 0, .int .i64 0, .int .i64 0, .bool false, .bool false]] rfl (by (try simp only [List.map_toArray, List.map_cons, List.map_nil]); first | done | rfl | (simp only [List.length_drop, List.length_take]; rfl)) ?_; (with_reducible refine (layout_Head.calls k 0 0 0 false false t220 t221 _ A3.out).mono ?_); rintro e w17 ⟨rfl, hb⟩; refine ⟨_, rfl, ?_⟩; have n0_ := Aside0.mk (blk_below (g := gb219) (o := .cells #[.string t216, .string t217] 29 (0, 0)) (by (with_reducible repeat (first | refine blk_drewN ?_ _ | refine blk_drew ?_ | refine blk_alloc ?_ _)); refine blk_put (cs := #[.string t216, .string (⟨#[]⟩ : ByteArray)]) ?_ 1 _ rfl; (with_reducible repeat (first | refine blk_drewN ?_ _ | refine blk_drew ?_ | refine blk_alloc ?_ _)); refine blk_put (cs := #[.string (⟨#[]⟩ : ByteArray), .string (⟨#[]⟩ : ByteArray)]) ?_ 0 _ rfl; (with_reducible repeat (first | refine blk_drewN ?_ _ | refine blk_drew ?_ | refine blk_alloc ?_ _)); exact BK219.out) hb); have n1_ := Aside0.mk (below_step (by repeat (first | (with_reducible first | exact HB.out | apply below_alloc | apply pw_below_drewN | apply below_drew1 | refine below_set ?_ GE219.out) | exact HB.out)) hb); clear BK219; clear HB; have BK219 := n0_; have HB := n1_; clear n0_ n1_; (try clear hb); (try clear hb2); (try clear hk); (try clear hi)) | ((with_reducible refine gate_callee (f := 26) rfl ?_); refine goesL_ (some 26) rfl rfl Tryd.func26 (by kernel_rfl) rfl #[.string (⟨#[48, 49, 50]⟩ : ByteArray)] rfl (by (try simp only [List.map_toArray, List.map_cons, List.map_nil]); first | done | rfl | (simp only [List.length_drop, List.length_take]; rfl)) ?_; (with_reducible refine (layout_ReadVersion.calls (⟨#[48, 49, 50]⟩ : ByteArray) t222 t223 t224 _ A4.out ?sideL).mono ?_); (case sideL => exact tabs_below hL (by repeat (first | (with_reducible first | exact HB.out | apply below_alloc | apply pw_below_drewN | apply below_drew1 | refine below_set ?_ GE219.out) | exact HB.out)) (Nat.le_refl _)); rintro e w18 ⟨rfl, hb⟩; refine ⟨_, rfl, ?_⟩; have n0_ := Aside0.mk (blk_below (g := gb219) (o := .cells #[.string t216, .string t217] 29 (0, 0)) (by (with_reducible repeat (first | refine blk_drewN ?_ _ | refine blk_drew ?_ | refine blk_alloc ?_ _)); exact BK219.out) hb); have n1_ := Aside0.mk (below_step (by repeat (first | (with_reducible first | exact HB.out | apply below_alloc | apply pw_below_drewN | apply below_drew1 | refine below_set ?_ GE219.out) | exact HB.out)) hb); clear BK219; clear HB; have BK219 := n0_; have HB := n1_; clear n0_ n1_; (try clear hb); (try clear hb2); (try clear hk); (try clear hi); have hcz19_0 : w18.cell? ⟨gb219, 0, none⟩ = some (.string t216) := (blk_cell BK219.out 0).trans rfl; have hcz19_1 : w18.cell? ⟨gb219, 1, none⟩ = some (.string t217) := (blk_cell BK219.out 1).trans rfl; have hfz19_0 := blk_frozen BK219.out 0; have hfz19_1 := blk_frozen BK219.out 1) | (go_at_call 27; (with_reducible refine (layout_Version.calls 12 false t225 _ A11.out ?sideL).mono ?_); (case sideL => exact tabs_below hL (by repeat (first | (with_reducible first | exact HB.out | apply below_alloc | apply pw_below_drewN | apply below_drew1 | refine below_set ?_ GE219.out) | exact HB.out)) (Nat.le_refl _)); rintro e w20 ⟨rfl, hb⟩; have n0_ := Aside0.mk (blk_below (g := gb219) (o := .cells #[.string t216, .string t217] 29 (0, 0)) (by (with_reducible repeat (first | refine blk_drewN ?_ _ | refine blk_drew ?_ | refine blk_alloc ?_ _)); exact BK219.out) hb); have n1_ := Aside0.mk (below_step (by repeat (first | (with_reducible first | exact HB.out | apply below_alloc | apply pw_below_drewN | apply below_drew1 | refine below_set ?_ GE219.out) | exact HB.out)) hb); clear BK219; clear HB; have BK219 := n0_; have HB := n1_; clear n0_ n1_; (try clear hb); (try clear hb2); (try clear hk); (try clear hi)))
        go_ret
        exact ⟨by first | rfl | (simp [errW_none, errW_some] <;> rfl) | (simp [*, errW_none, errW_some] <;> rfl), by repeat (first | (with_reducible first | exact HB.out | apply below_alloc | apply pw_below_drewN | apply below_drew1 | refine below_set ?_ GE219.out) | exact HB.out)⟩
       ·rw [if_neg c12] at H
        exact absurd H (by simp)
      ·rw [if_neg c10] at H
       exact absurd H (by simp)
     ·rw [if_neg c9] at H
      exact absurd H (by simp)
    ·rw [if_neg c8] at H
     exact absurd H (by simp)
   ·rw [if_neg c7] at H
    exact absurd H (by simp)
  ·rw [if_neg c6] at H
   exact absurd H (by simp)
 ·rw [if_neg c5] at H
  exact absurd H (by simp)

end Go.Proofs.YtbdfmjgndeigpaaDoor.P
