-- by xprint (this session's program over the kit's printer)
import Derived.Test.YtbdfmjgndeigpaaDoorPx0
import Derived.Test.YtbdfmjgndeigpaaDoorPx1
import Derived.Test.YtbdfmjgndeigpaaDoorPx8
import Derived.Test.YtbdfmjgndeigpaaDoorPx9
import Derived.Test.YtbdfmjgndeigpaaDoorPx12
import Derived.Test.YtbdfmjgndeigpaaDoorPx13
import Derived.Test.YtbdfmjgndeigpaaDoorPx14
namespace Go.Proofs.YtbdfmjgndeigpaaDoor.P
open Go.RowKit Go.Proofs.YtbdfmjgndeigpaaDoorW.PrintWords Go.Proofs.YtbdfmjgndeigpaaDoorW.PrintLast Go.Proofs.YtbdfmjgndeigpaaDoorW.PrintMore
attribute [local go_sem] max2_int min2_int max_two min_two max_three min_three max_four min_four   -- for this text's walks alone
set_option linter.unusedVariables false
set_option linter.unusedSimpArgs false

attribute [local go_sem high] eqA29
/-! ### w21_lives: function 9 -/
def w21_lives.f (k : Nat)  : Option (Bool) := (layout_Key.f k 1 (⟨#[97, 98, 99]⟩ : ByteArray) (⟨#[]⟩ : ByteArray) ([] : List Int)).bind fun bt214 => ((layout_Span.f k 2 (⟨#[97, 98, 99]⟩ : ByteArray) (⟨#[]⟩ : ByteArray) ([] : List Int)).bind fun bt216 => ((layout_Head.f k 0 0 0 false false).bind fun bt220 => ((layout_ReadVersion.f (⟨#[48, 49, 50]⟩ : ByteArray)).bind fun bt222 => (if bt214.1.toList = ([2, 98, 0, 1, 2, 97, 98, 99, 0, 1] : List UInt8) then (if bt214.2 = 0 then (if (bt216.1.toList == ([2, 111, 0, 1, 2, 97, 98, 99, 0, 1] : List UInt8) && (bt216.2.1.toList == ([2, 111, 0, 1, 2, 97, 98, 99, 0, 1, 255] : List UInt8))) = true then (if bt216.2.2 = 0 then (if bt220.1.toList = ([0, 0, 0, 0, 0, 0, 0, 0, 0, 0, 0] : List UInt8) then (if bt220.2 = 0 then ((layout_Version.f 12 false).bind fun t225 => (if t225.toList = ([49, 50] : List UInt8) then (some (bt222.2.2 == 4)) else (none))) else (none)) else (none)) else (none)) else (none)) else (none)) else (none)))))
theorem w21_lives.mono : ∀ k, LeO (w21_lives.f k ) (w21_lives.f (k + 1) ) := by
 intro  k
 unfold w21_lives.f
 repeat' first
   | (with_reducible exact layout_Head.mono _ _ _ _ _ _)
   | (with_reducible exact layout_Key.mono _ _ _ _ _)
   | (with_reducible exact layout_Span.mono _ _ _ _ _)
   | (with_reducible exact LeO.refl _)
   | (with_reducible exact LeO.none _)
   | (with_reducible refine LeO.ite ?_ ?_)
   | (with_reducible refine LeO.bind ?_ (fun _ => ?_))
   | exact layout_Head.mono _ _ _ _ _ _
   | exact layout_Key.mono _ _ _ _ _
   | exact layout_Span.mono _ _ _ _ _
   | exact LeO.none _
   | refine LeO.ite ?_ ?_
   | refine LeO.bind ?_ (fun _ => ?_)
set_option maxHeartbeats 8000000 in
set_option maxRecDepth 100000 in
theorem w21_lives.calls (k : Nat)  (r : Bool) (w : World) (h : w21_lives.f k  = some r) (hL : TabsAt w) :
  Calls Tryd.prog 9 #[] w fun e w' => e = .returned (.bool r) ∧ Below w.heap.size w w' := by
 have hu25 := Tryd.underlying25
 have hu29 := Tryd.underlying29
 have hu40 := Tryd.underlying40
 have HB := Aside0.mk (Below.refl w.heap.size w)
 have H : ((layout_Key.f k 1 (⟨#[97, 98, 99]⟩ : ByteArray) (⟨#[]⟩ : ByteArray) ([] : List Int)).bind fun bt214 => ((layout_Span.f k 2 (⟨#[97, 98, 99]⟩ : ByteArray) (⟨#[]⟩ : ByteArray) ([] : List Int)).bind fun bt216 => ((layout_Head.f k 0 0 0 false false).bind fun bt220 => ((layout_ReadVersion.f (⟨#[48, 49, 50]⟩ : ByteArray)).bind fun bt222 => (if bt214.1.toList = ([2, 98, 0, 1, 2, 97, 98, 99, 0, 1] : List UInt8) then (if bt214.2 = 0 then (if (bt216.1.toList == ([2, 111, 0, 1, 2, 97, 98, 99, 0, 1] : List UInt8) && (bt216.2.1.toList == ([2, 111, 0, 1, 2, 97, 98, 99, 0, 1, 255] : List UInt8))) = true then (if bt216.2.2 = 0 then (if bt220.1.toList = ([0, 0, 0, 0, 0, 0, 0, 0, 0, 0, 0] : List UInt8) then (if bt220.2 = 0 then ((layout_Version.f 12 false).bind fun t225 => (if t225.toList = ([49, 50] : List UInt8) then (some (bt222.2.2 == 4)) else (none))) else (none)) else (none)) else (none)) else (none)) else (none)) else (none)))))) = some r := h
 clear h
 replace H := Option.bind_eq_some_iff.mp H
 obtain ⟨⟨t214, t215⟩, A10, H⟩ := H
 replace H : ((layout_Span.f k 2 (⟨#[97, 98, 99]⟩ : ByteArray) (⟨#[]⟩ : ByteArray) ([] : List Int)).bind fun bt216 => ((layout_Head.f k 0 0 0 false false).bind fun bt220 => ((layout_ReadVersion.f (⟨#[48, 49, 50]⟩ : ByteArray)).bind fun bt222 => (if t214.toList = ([2, 98, 0, 1, 2, 97, 98, 99, 0, 1] : List UInt8) then (if t215 = 0 then (if (bt216.1.toList == ([2, 111, 0, 1, 2, 97, 98, 99, 0, 1] : List UInt8) && (bt216.2.1.toList == ([2, 111, 0, 1, 2, 97, 98, 99, 0, 1, 255] : List UInt8))) = true then (if bt216.2.2 = 0 then (if bt220.1.toList = ([0, 0, 0, 0, 0, 0, 0, 0, 0, 0, 0] : List UInt8) then (if bt220.2 = 0 then ((layout_Version.f 12 false).bind fun t225 => (if t225.toList = ([49, 50] : List UInt8) then (some (bt222.2.2 == 4)) else (none))) else (none)) else (none)) else (none)) else (none)) else (none)) else (none))))) = some r := H
 have A1 := Aside0.mk A10
 clear A10
 replace H := Option.bind_eq_some_iff.mp H
 obtain ⟨⟨t216, t217, t218⟩, A20, H⟩ := H
 replace H : ((layout_Head.f k 0 0 0 false false).bind fun bt220 => ((layout_ReadVersion.f (⟨#[48, 49, 50]⟩ : ByteArray)).bind fun bt222 => (if t214.toList = ([2, 98, 0, 1, 2, 97, 98, 99, 0, 1] : List UInt8) then (if t215 = 0 then (if (t216.toList == ([2, 111, 0, 1, 2, 97, 98, 99, 0, 1] : List UInt8) && (t217.toList == ([2, 111, 0, 1, 2, 97, 98, 99, 0, 1, 255] : List UInt8))) = true then (if t218 = 0 then (if bt220.1.toList = ([0, 0, 0, 0, 0, 0, 0, 0, 0, 0, 0] : List UInt8) then (if bt220.2 = 0 then ((layout_Version.f 12 false).bind fun t225 => (if t225.toList = ([49, 50] : List UInt8) then (some (bt222.2.2 == 4)) else (none))) else (none)) else (none)) else (none)) else (none)) else (none)) else (none)))) = some r := H
 have A2 := Aside0.mk A20
 clear A20
 replace H := Option.bind_eq_some_iff.mp H
 obtain ⟨⟨t220, t221⟩, A30, H⟩ := H
 replace H : ((layout_ReadVersion.f (⟨#[48, 49, 50]⟩ : ByteArray)).bind fun bt222 => (if t214.toList = ([2, 98, 0, 1, 2, 97, 98, 99, 0, 1] : List UInt8) then (if t215 = 0 then (if (t216.toList == ([2, 111, 0, 1, 2, 97, 98, 99, 0, 1] : List UInt8) && (t217.toList == ([2, 111, 0, 1, 2, 97, 98, 99, 0, 1, 255] : List UInt8))) = true then (if t218 = 0 then (if t220.toList = ([0, 0, 0, 0, 0, 0, 0, 0, 0, 0, 0] : List UInt8) then (if t221 = 0 then ((layout_Version.f 12 false).bind fun t225 => (if t225.toList = ([49, 50] : List UInt8) then (some (bt222.2.2 == 4)) else (none))) else (none)) else (none)) else (none)) else (none)) else (none)) else (none))) = some r := H
 have A3 := Aside0.mk A30
 clear A30
 replace H := Option.bind_eq_some_iff.mp H
 obtain ⟨⟨t222, t223, t224⟩, A40, H⟩ := H
 replace H : (if t214.toList = ([2, 98, 0, 1, 2, 97, 98, 99, 0, 1] : List UInt8) then (if t215 = 0 then (if (t216.toList == ([2, 111, 0, 1, 2, 97, 98, 99, 0, 1] : List UInt8) && (t217.toList == ([2, 111, 0, 1, 2, 97, 98, 99, 0, 1, 255] : List UInt8))) = true then (if t218 = 0 then (if t220.toList = ([0, 0, 0, 0, 0, 0, 0, 0, 0, 0, 0] : List UInt8) then (if t221 = 0 then ((layout_Version.f 12 false).bind fun t225 => (if t225.toList = ([49, 50] : List UInt8) then (some (t224 == 4)) else (none))) else (none)) else (none)) else (none)) else (none)) else (none)) else (none)) = some r := H
 have A4 := Aside0.mk A40
 clear A40
 by_cases c5 : t214.toList = ([2, 98, 0, 1, 2, 97, 98, 99, 0, 1] : List UInt8)
 ·rw [if_pos c5] at H
  have c5b0 : (t214.toList == ([2, 98, 0, 1, 2, 97, 98, 99, 0, 1] : List UInt8)) = true := beq_iff_eq.mpr c5
  have c5b1 : (t214.toList != ([2, 98, 0, 1, 2, 97, 98, 99, 0, 1] : List UInt8)) = false := bne_eq_false_iff_eq.mpr c5
  clear c5
  by_cases c6 : t215 = 0
  ·rw [if_pos c6] at H
   have c6b0 : (t215 == 0) = true := beq_iff_eq.mpr c6
   have c6b1 : (t215 != 0) = false := bne_eq_false_iff_eq.mpr c6
   clear c6
   by_cases c7 : (t216.toList == ([2, 111, 0, 1, 2, 97, 98, 99, 0, 1] : List UInt8) && (t217.toList == ([2, 111, 0, 1, 2, 97, 98, 99, 0, 1, 255] : List UInt8))) = true
   ·rw [if_pos c7] at H
    have c7b0 : (t216.toList == ([2, 111, 0, 1, 2, 97, 98, 99, 0, 1] : List UInt8) && (t217.toList == ([2, 111, 0, 1, 2, 97, 98, 99, 0, 1, 255] : List UInt8))) = true := c7
    (try (have c7b1 : decide (t216.toList = ([2, 111, 0, 1, 2, 97, 98, 99, 0, 1] : List UInt8) && (t217.toList == ([2, 111, 0, 1, 2, 97, 98, 99, 0, 1, 255] : List UInt8))) = true := by simpa using c7))
    (try (have c7b2 : (t216.toList == ([2, 111, 0, 1, 2, 97, 98, 99, 0, 1] : List UInt8) && (t217.toList == ([2, 111, 0, 1, 2, 97, 98, 99, 0, 1, 255] : List UInt8))) = true := by simpa using c7))
    clear c7
    by_cases c8 : t218 = 0
    ·rw [if_pos c8] at H
     have c8b0 : (t218 == 0) = true := beq_iff_eq.mpr c8
     have c8b1 : (t218 != 0) = false := bne_eq_false_iff_eq.mpr c8
     clear c8
     by_cases c9 : t220.toList = ([0, 0, 0, 0, 0, 0, 0, 0, 0, 0, 0] : List UInt8)
     ·rw [if_pos c9] at H
      have c9b0 : (t220.toList == ([0, 0, 0, 0, 0, 0, 0, 0, 0, 0, 0] : List UInt8)) = true := beq_iff_eq.mpr c9
      have c9b1 : (t220.toList != ([0, 0, 0, 0, 0, 0, 0, 0, 0, 0, 0] : List UInt8)) = false := bne_eq_false_iff_eq.mpr c9
      clear c9
      by_cases c10 : t221 = 0
      ·rw [if_pos c10] at H
       have c10b0 : (t221 == 0) = true := beq_iff_eq.mpr c10
       have c10b1 : (t221 != 0) = false := bne_eq_false_iff_eq.mpr c10
       clear c10
       replace H := Option.bind_eq_some_iff.mp H
       obtain ⟨t225, A110, H⟩ := H
       replace H : (if t225.toList = ([49, 50] : List UInt8) then (some (t224 == 4)) else (none)) = some r := H
       have A11 := Aside0.mk A110
       clear A110
       by_cases c12 : t225.toList = ([49, 50] : List UInt8)
       ·rw [if_pos c12] at H
        have c12b0 : (t225.toList == ([49, 50] : List UInt8)) = true := beq_iff_eq.mpr c12
        have c12b1 : (t225.toList != ([49, 50] : List UInt8)) = false := bne_eq_false_iff_eq.mpr c12
        clear c12
        obtain rfl := Option.some.inj H
        go_enter Tryd.func9, Tryd.ntmps9
        go_wp2_with (first | ((with_reducible refine gate_callee (f := 11) rfl ?_); refine goesL_ (some 12) rfl rfl Tryd.func11 (by kernel_rfl) rfl #[.agg #[.int .i64 1, .string (⟨#[97, 98, 99]⟩ : ByteArray), .string (⟨#[]⟩ : ByteArray), .slice none 0 0]] rfl (by (try simp only [List.map_toArray, List.map_cons, List.map_nil]); rfl) ?_; (refine (layout_Key.calls k 1 (⟨#[97, 98, 99]⟩ : ByteArray) (⟨#[]⟩ : ByteArray) _ _ ([] : List Int) t214 t215 _ ?side1 ?side2 A1.out).mono ?_); (case side1 => exact Kd.C_nil _ _); (case side2 => exact Nat.le_refl _); rintro e w13 ⟨rfl, hb⟩; refine ⟨_, rfl, ?_⟩; have n0_ := Aside0.mk (below_step (by repeat ((with_reducible exact HB.out))) hb); clear HB; have HB := n0_; clear n0_; (try clear hb); (try clear hb2); (try clear hk); (try clear hi)) | ((with_reducible refine gate_callee (f := 10) rfl ?_); refine goesL_ (some 17) rfl rfl Tryd.func10 (by kernel_rfl) rfl #[.agg #[.int .i64 2, .string (⟨#[97, 98, 99]⟩ : ByteArray), .string (⟨#[]⟩ : ByteArray), .slice none 0 0]] rfl (by (try simp only [List.map_toArray, List.map_cons, List.map_nil]); rfl) ?_; (refine (layout_Span.calls k 2 (⟨#[97, 98, 99]⟩ : ByteArray) (⟨#[]⟩ : ByteArray) _ _ ([] : List Int) t216 t217 t218 _ ?side1 ?side2 A2.out).mono ?_); (case side1 => exact Kd.C_nil _ _); (case side2 => exact Nat.le_refl _); rintro e w14 ⟨rfl, hb⟩; refine ⟨_, rfl, ?_⟩; have n0_ := Aside0.mk (below_step (by repeat ((with_reducible exact HB.out))) hb); clear HB; have HB := n0_; clear n0_; (try clear hb); (try clear hb2); (try clear hk); (try clear hi)) | ((with_reducible refine gate_dst (N := 3) rfl ?_); refine box_event ?hg (N := 3) ?hd (cs := #[.string (⟨#[]⟩ : ByteArray), .string (⟨#[]⟩ : ByteArray)]) (t := 29) ?hr ?_; (case hd => rfl); (case hg => rfl); (case hr => (go_simp; done)); intro gb219 hg w15 hbox hb; have n0_ := Aside0.mk (below_step (by repeat ((with_reducible exact HB.out))) hb); have n1_ := Aside0.mk (hbox); have n2_ := Aside0.mk ((by rw [hg]; exact (below_size (by repeat ((with_reducible exact HB.out)))) : w.heap.size ≤ gb219)); have n3_ := Aside0.mk ((by rw [hg]; exact (below_size (by repeat ((with_reducible exact HB.out)))) : w.heap.size ≤ gb219)); clear HB; have HB := n0_; have BK219 := n1_; have GW219 := n2_; have GE219 := n3_; clear n0_ n1_ n2_ n3_; clear hb hbox hg; have hcz16_0 : w15.cell? ⟨gb219, 0, none⟩ = some (.string (⟨#[]⟩ : ByteArray)) := (blk_cell BK219.out 0).trans rfl; have hcz16_1 : w15.cell? ⟨gb219, 1, none⟩ = some (.string (⟨#[]⟩ : ByteArray)) := (blk_cell BK219.out 1).trans rfl; have hfz16_0 := blk_frozen BK219.out 0; have hfz16_1 := blk_frozen BK219.out 1) | ((with_reducible refine gate_callee (f := 13) rfl ?_); refine goesL_ (some 22) rfl rfl Tryd.func13 (by kernel_rfl) rfl #[.agg #[.int .i64 0, .int .i64 0, .int .i64 0, .bool false, .bool false]] rfl (by (try simp only [List.map_toArray, List.map_cons, List.map_nil]); rfl) ?_; (with_reducible refine (layout_Head.calls k 0 0 0 false false t220 t221 _ A3.out).mono ?_); rintro e w17 ⟨rfl, hb⟩; refine ⟨_, rfl, ?_⟩; have n0_ := Aside0.mk (blk_below (g := gb219) (o := .cells #[.string t216, .string t217] 29 (0, 0)) (by (with_reducible repeat (refine blk_drew ?_)); refine blk_put (cs := #[.string t216, .string (⟨#[]⟩ : ByteArray)]) ?_ 1 _ rfl; (with_reducible repeat (refine blk_drew ?_)); refine blk_put (cs := #[.string (⟨#[]⟩ : ByteArray), .string (⟨#[]⟩ : ByteArray)]) ?_ 0 _ rfl; (with_reducible repeat (refine blk_drew ?_)); exact BK219.out) hb); have n1_ := Aside0.mk (below_step (by repeat ((with_reducible first | exact HB.out | refine below_set ?_ GE219.out))) hb); clear BK219; clear HB; have BK219 := n0_; have HB := n1_; clear n0_ n1_; (try clear hb); (try clear hb2); (try clear hk); (try clear hi)) | ((with_reducible refine gate_callee (f := 26) rfl ?_); refine goesL_ (some 26) rfl rfl Tryd.func26 (by kernel_rfl) rfl #[.string (⟨#[48, 49, 50]⟩ : ByteArray)] rfl (by (try simp only [List.map_toArray, List.map_cons, List.map_nil]); rfl) ?_; (with_reducible refine (layout_ReadVersion.calls (⟨#[48, 49, 50]⟩ : ByteArray) t222 t223 t224 _ A4.out ?sideL).mono ?_); (case sideL => exact tabs_below hL (by repeat ((with_reducible exact HB.out))) (Nat.le_refl _)); rintro e w18 ⟨rfl, hb⟩; refine ⟨_, rfl, ?_⟩; have n0_ := Aside0.mk (blk_below (g := gb219) (o := .cells #[.string t216, .string t217] 29 (0, 0)) (by (with_reducible repeat (refine blk_drew ?_)); exact BK219.out) hb); have n1_ := Aside0.mk (below_step (by repeat ((with_reducible exact HB.out))) hb); clear BK219; clear HB; have BK219 := n0_; have HB := n1_; clear n0_ n1_; (try clear hb); (try clear hb2); (try clear hk); (try clear hi); have hcz19_0 : w18.cell? ⟨gb219, 0, none⟩ = some (.string t216) := (blk_cell BK219.out 0).trans rfl; have hcz19_1 : w18.cell? ⟨gb219, 1, none⟩ = some (.string t217) := (blk_cell BK219.out 1).trans rfl; have hfz19_0 := blk_frozen BK219.out 0; have hfz19_1 := blk_frozen BK219.out 1) | (go_at_call 27; (with_reducible refine (layout_Version.calls 12 false t225 _ A11.out ?sideL).mono ?_); (case sideL => exact tabs_below hL (by repeat ((with_reducible exact HB.out))) (Nat.le_refl _)); rintro e w20 ⟨rfl, hb⟩; have n0_ := Aside0.mk (blk_below (g := gb219) (o := .cells #[.string t216, .string t217] 29 (0, 0)) (by (with_reducible repeat (refine blk_drew ?_)); exact BK219.out) hb); have n1_ := Aside0.mk (below_step (by repeat ((with_reducible exact HB.out))) hb); clear BK219; clear HB; have BK219 := n0_; have HB := n1_; clear n0_ n1_; (try clear hb); (try clear hb2); (try clear hk); (try clear hi)))
        go_ret
        exact ⟨by rfl, by repeat ((with_reducible exact HB.out))⟩
       ·rw [if_neg c12] at H
        exact absurd H (by simp)
      ·rw [if_neg c10] at H
       exact absurd H (by simp)
     ·rw [if_neg c9] at H
      exact absurd H (by simp)
    ·rw [if_neg c8] at H
     exact absurd H (by simp)
   ·rw [if_neg c7] at H
    exact absurd H (by simp)
  ·rw [if_neg c6] at H
   exact absurd H (by simp)
 ·rw [if_neg c5] at H
  exact absurd H (by simp)

/-! ### r21_nums: function 46 -/
def r21_nums.f (a0 : Int) : Option (Int) := if a0 < 1 then (some (-1)) else (if a0 > 6 then (some (-1)) else ((some (([0, 1, 2, 1, 2, 3] : List Int) : List Int)).bind fun y226 => (if 0 ≤ (wrap64 (a0 - 1)) then (if (wrap64 (a0 - 1)) < (y226.length : Int) then (some (rd y226 (wrap64 (a0 - 1)))) else (none)) else (none))))
set_option maxHeartbeats 8000000 in
set_option maxRecDepth 100000 in
theorem r21_nums.calls (a0 : Int) (r : Int) (w : World) (h : r21_nums.f a0 = some r) :
  Calls Tryd.prog 46 #[.int .i64 a0] w fun e w' => e = .returned (.int .i64 r) ∧ Below w.heap.size w w' := by
 have HB := Aside0.mk (Below.refl w.heap.size w)
 have H : (if a0 < 1 then (some (-1)) else (if a0 > 6 then (some (-1)) else ((some (([0, 1, 2, 1, 2, 3] : List Int) : List Int)).bind fun y226 => (if 0 ≤ (wrap64 (a0 - 1)) then (if (wrap64 (a0 - 1)) < (y226.length : Int) then (some (rd y226 (wrap64 (a0 - 1)))) else (none)) else (none))))) = some r := h
 clear h
 by_cases c2 : a0 < 1
 ·rw [if_pos c2] at H
  have c2b0 : decide (a0 < 1) = true := decide_eq_true c2
  clear c2
  obtain rfl := Option.some.inj H
  go_enter Tryd.func46, Tryd.ntmps46
  go_wp2
  go_ret
  exact ⟨by rfl, by repeat ((with_reducible exact HB.out))⟩
 ·rw [if_neg c2] at H
  have c2b0 : decide (a0 < 1) = false := decide_eq_false c2
  clear c2
  by_cases c3 : a0 > 6
  ·rw [if_pos c3] at H
   have c3b0 : decide (6 < a0) = true := decide_eq_true c3
   clear c3
   obtain rfl := Option.some.inj H
   go_enter Tryd.func46, Tryd.ntmps46
   go_wp2
   go_ret
   exact ⟨by rfl, by repeat ((with_reducible exact HB.out))⟩
  ·rw [if_neg c3] at H
   have c3b0 : decide (6 < a0) = false := decide_eq_false c3
   clear c3
   obtain ⟨y226, hy226⟩ : ∃ y_ : List Int, y_ = (([0, 1, 2, 1, 2, 3] : List Int)) := ⟨_, rfl⟩
   replace H : (if 0 ≤ (wrap64 (a0 - 1)) then (if (wrap64 (a0 - 1)) < (y226.length : Int) then (some (rd y226 (wrap64 (a0 - 1)))) else (none)) else (none)) = some r := by (have H2_ := (Option.bind_some _ _).symm.trans H; rw [hy226]; with_reducible exact H2_)
   have Ny226 := Aside0.mk hy226
   clear hy226
   obtain ⟨ji4, hji4⟩ : ∃ j_ : Int, (wrap64 (a0 - 1)) = j_ := ⟨_, rfl⟩
   replace H : (if 0 ≤ (ji4) then (if (ji4) < (y226.length : Int) then (some (rd y226 (ji4))) else (none)) else (none)) = some r := by (rw [hji4] at H; exact H)
   have hji4w : (IntKind.i64.wrap (a0 - 1)) = ji4 := (i64_w _).trans hji4
   by_cases c5 : 0 ≤ (ji4)
   ·rw [if_pos c5] at H
    have c5b0 : decide (0 ≤ (ji4)) = true := decide_eq_true c5
    clear c5
    by_cases c6 : (ji4) < (y226.length : Int)
    ·rw [if_pos c6] at H
     have c6b0 : decide ((ji4) < (y226.length : Int)) = true := decide_eq_true c6
     clear c6
     obtain rfl := Option.some.inj H
     go_enter Tryd.func46, Tryd.ntmps46
     go_wp2_with (((with_reducible refine gate_dst (N := 9) rfl ?_); refine Kd.R_lit (Kd.int .i64) _ 3 ?hg (N := 9) ?hd (xs := ([0, 1, 2, 1, 2, 3] : List Int)) (inner := [.int .i64 0, .int .i64 1, .int .i64 2, .int .i64 1, .int .i64 2, .int .i64 3]) (ok := fun _ => True) (okp := fun _ => True) ?hr ?hp (fun _ hk => hk) trivial (Below.refl _ _) (Nat.le_refl _) (by simp) ?_; (case hd => rfl); (case hg => rfl); (case hr => (go_simp; done)); (case hp => exact (Reps.one (show Kd.M (Kd.int .i64) _ _ _ 0 [.int .i64 0] from rfl) (Reps.one (show Kd.M (Kd.int .i64) _ _ _ 1 [.int .i64 1] from rfl) (Reps.one (show Kd.M (Kd.int .i64) _ _ _ 2 [.int .i64 2] from rfl) (Reps.one (show Kd.M (Kd.int .i64) _ _ _ 1 [.int .i64 1] from rfl) (Reps.one (show Kd.M (Kd.int .i64) _ _ _ 2 [.int .i64 2] from rfl) (Reps.one (show Kd.M (Kd.int .i64) _ _ _ 3 [.int .i64 3] from rfl) (Reps.none _ _)))))))); intro v227 w7 ho8 hb hg_ hnew_; clear hg_ hnew_; (rw [← Ny226.out] at ho8); have n0_ := Aside0.mk (Kd.R_lower ho8 (below_size (by repeat ((with_reducible exact HB.out))))); have n1_ := Aside0.mk (below_step (by repeat ((with_reducible exact HB.out))) hb); clear HB; have HO228 := n0_; have HB := n1_; clear n0_ n1_; clear hb ho8; obtain ⟨Ao9, co9, eo9⟩ := Kd.R_slice HO228.out; subst eo9; have p229 : 0 ≤ ((ji4) : Int) := of_decide_eq_true (by (with_reducible assumption)); have q229 : (ji4) < (y226.length : Int) := of_decide_eq_true (by (with_reducible assumption)); obtain ⟨ad229, e229, hx229_0⟩ := Kd.at_int (Kd.R_reads' HO228.out).2.2 (ji4) p229 q229; cases e229; replace p229 := eq_true p229; replace q229 := eq_true q229))
     go_ret
     exact ⟨by rfl, by repeat ((with_reducible exact HB.out))⟩
    ·rw [if_neg c6] at H
     exact absurd H (by simp)
   ·rw [if_neg c5] at H
    exact absurd H (by simp)

/-! ### r21_numbers: function 47 -/
def r21_numbers.l0 : Nat → Int → Int → Int → ByteArray → ByteArray → List Int → Option (Bool)
 | 0, _, _, _, _, _, _ => none
 | k + 1, x1, x5, x231000, x231001, x231002, x231003 => if x5 < (x231003.length : Int) then (if 0 ≤ x5 then (if (rd x231003 x5) < 0 then (some false) else (r21_numbers.l0 k x1 (wrap64 (x5 + 1)) x231000 x231001 x231002 x231003)) else (none)) else (some (decide ((x231003.length : Int) ≤ x1)))
def r21_numbers.f (k : Nat) (a0_0 : Int) (a0_1 : ByteArray) (a0_2 : ByteArray) (l0_3 : List Int) (a1 : Int) : Option (Bool) := r21_numbers.l0 k a1 0 a0_0 a0_1 a0_2 l0_3
theorem r21_numbers.mono_l : ∀ k, (∀ y0 y1 y2 y3 y4 y5, LeO (r21_numbers.l0 k y0 y1 y2 y3 y4 y5) (r21_numbers.l0 (k + 1) y0 y1 y2 y3 y4 y5))
 | 0 => fun _ _ _ _ _ _ r h => by simp [r21_numbers.l0] at h
 | k + 1 => by
  have ih0 := r21_numbers.mono_l k
  ·intro y0 y1 y2 y3 y4 y5
   unfold r21_numbers.l0
   repeat' first
   | (with_reducible exact ih0 _ _ _ _ _ _)
   | (with_reducible exact LeO.refl _)
   | (with_reducible exact LeO.none _)
   | (with_reducible refine LeO.ite ?_ ?_)
   | (with_reducible refine LeO.bind ?_ (fun _ => ?_))
   | exact ih0 _ _ _ _ _ _
   | exact LeO.none _
   | refine LeO.ite ?_ ?_
   | refine LeO.bind ?_ (fun _ => ?_)
theorem r21_numbers.mono : ∀ a0 a1 a2 a3 a4 k, LeO (r21_numbers.f k a0 a1 a2 a3 a4) (r21_numbers.f (k + 1) a0 a1 a2 a3 a4) := by
 intro a0 a1 a2 a3 a4 k
 have ih0 := r21_numbers.mono_l k
 unfold r21_numbers.f
 repeat' first
   | (with_reducible exact ih0 _ _ _ _ _ _)
   | (with_reducible exact LeO.refl _)
   | (with_reducible exact LeO.none _)
   | (with_reducible refine LeO.ite ?_ ?_)
   | (with_reducible refine LeO.bind ?_ (fun _ => ?_))
   | exact ih0 _ _ _ _ _ _
   | exact LeO.none _
   | refine LeO.ite ?_ ?_
   | refine LeO.bind ?_ (fun _ => ?_)
set_option maxHeartbeats 8000000 in
set_option maxRecDepth 100000 in
theorem r21_numbers.calls (k : Nat) (a0_0 : Int) (a0_1 : ByteArray) (a0_2 : ByteArray) (A0_3 : Option Addr) (c0_3 : Nat) (l0_3 : List Int) (a1 : Int) (r : Bool) (w : World) (hr0_3 : Kd.C (Kd.int .i64) w A0_3 l0_3.length l0_3) (hc0_3 : l0_3.length ≤ c0_3) (h : r21_numbers.f k a0_0 a0_1 a0_2 l0_3 a1 = some r) :
  Calls Tryd.prog 47 #[.agg #[.int .i64 a0_0, .string a0_1, .string a0_2, .slice A0_3 l0_3.length c0_3], .int .i64 a1] w fun e w' => e = .returned (.bool r) ∧ Below w.heap.size w w' := by
 have hu25 := Tryd.underlying25
 have HR0_3 := Aside0.mk hr0_3
 have HC0_3 := Aside0.mk hc0_3
 clear hr0_3 hc0_3
 have HB := Aside0.mk (Below.refl w.heap.size w)
 have H : (r21_numbers.l0 k a1 0 a0_0 a0_1 a0_2 l0_3) = some r := h
 clear h
 have H' := Aside0.mk H
 clear H
 go_enter Tryd.func47, Tryd.ntmps47
 go_wp2_with (((with_reducible refine gate_dst (N := 2) rfl ?_); refine box_event ?hg (N := 2) ?hd (cs := #[.int .i64 a0_0, .string a0_1, .string a0_2, .slice A0_3 l0_3.length c0_3]) (t := 25) ?hr ?_; (case hd => rfl); (case hg => rfl); (case hr => (go_simp; done)); intro gb230 hg w3 hbox hb; have n0_ := Aside0.mk (below_step (by repeat ((with_reducible exact HB.out))) hb); have n1_ := Aside0.mk (hbox); have n2_ := Aside0.mk ((by rw [hg]; exact (below_size (by repeat ((with_reducible exact HB.out)))) : w.heap.size ≤ gb230)); have n3_ := Aside0.mk ((by rw [hg]; exact (below_size (by repeat ((with_reducible exact HB.out)))) : w.heap.size ≤ gb230)); clear HB; have HB := n0_; have BK230 := n1_; have GW230 := n2_; have GE230 := n3_; clear n0_ n1_ n2_ n3_; clear hb hbox hg))
 go_loopg [5] k (fun kq v5 w' => ∃ (x5_1 : Int), v5 = .int .i64 x5_1 ∧ Aside0 (r21_numbers.l0 kq a1 x5_1 a0_0 a0_1 a0_2 l0_3 = some r) ∧ Aside0 (kq ≤ k) ∧ Aside0 (w'.heap[gb230]? = some (.cells #[.int .i64 a0_0, .string a0_1, .string a0_2, (.slice A0_3 l0_3.length c0_3)] 25 (0, 0))) ∧ Aside0 (Below w.heap.size w w'))
 case atStart => exact ⟨(0), (by rfl), H', ⟨Nat.le_refl _⟩, ⟨by (with_reducible repeat (refine blk_drew ?_)); exact BK230.out⟩, ⟨by repeat ((with_reducible exact HB.out))⟩⟩
 case round =>
  clear H'
  try clear p2
  obtain ⟨x5_1, rfl, HA, HK1, BK230, HB⟩ := hrel
  cases gk with
  | zero => exact absurd HA.out (by simp [r21_numbers.l0])
  | succ k1 =>
   have H := HA.out
   clear HA
   simp only [r21_numbers.l0] at H
   by_cases c4 : x5_1 < (l0_3.length : Int)
   ·rw [if_pos c4] at H
    have c4b0 : decide (x5_1 < (l0_3.length : Int)) = true := decide_eq_true c4
    clear c4
    by_cases c5 : 0 ≤ x5_1
    ·rw [if_pos c5] at H
     have c5b0 : decide (0 ≤ x5_1) = true := decide_eq_true c5
     clear c5
     by_cases c6 : (rd l0_3 x5_1) < 0
     ·rw [if_pos c6] at H
      have c6b0 : decide ((rd l0_3 x5_1) < 0) = true := decide_eq_true c6
      clear c6
      obtain rfl := Option.some.inj H
      have hcz7_0 : wr.cell? ⟨gb230, 0, none⟩ = some (.int .i64 a0_0) := (blk_cell BK230.out 0).trans rfl
      have hcz7_1 : wr.cell? ⟨gb230, 1, none⟩ = some (.string a0_1) := (blk_cell BK230.out 1).trans rfl
      have hcz7_2 : wr.cell? ⟨gb230, 2, none⟩ = some (.string a0_2) := (blk_cell BK230.out 2).trans rfl
      have hcz7_3 : wr.cell? ⟨gb230, 3, none⟩ = some (.slice A0_3 l0_3.length c0_3) := (blk_cell BK230.out 3).trans rfl
      have hfz7_0 := blk_frozen BK230.out 0
      have hfz7_1 := blk_frozen BK230.out 1
      have hfz7_2 := blk_frozen BK230.out 2
      have hfz7_3 := blk_frozen BK230.out 3
      have p231 : 0 ≤ (x5_1 : Int) := of_decide_eq_true (by (with_reducible assumption))
      have q231 : x5_1 < (l0_3.length : Int) := of_decide_eq_true (by (with_reducible assumption))
      obtain ⟨ad231, e231, hx231_0⟩ := Kd.at_int HR0_3.out x5_1 p231 q231
      cases e231
      replace hx231_0 := (HB.out.cell (World.block_lt_of_cell? w _ hx231_0)).trans hx231_0
      replace p231 := eq_true p231
      replace q231 := eq_true q231
      go_wp2
      go_ret
      exact ⟨by rfl, by repeat ((with_reducible exact HB.out))⟩
     ·rw [if_neg c6] at H
      have c6b0 : decide ((rd l0_3 x5_1) < 0) = false := decide_eq_false c6
      clear c6
      have H' := Aside0.mk H
      clear H
      have hcz8_0 : wr.cell? ⟨gb230, 0, none⟩ = some (.int .i64 a0_0) := (blk_cell BK230.out 0).trans rfl
      have hcz8_1 : wr.cell? ⟨gb230, 1, none⟩ = some (.string a0_1) := (blk_cell BK230.out 1).trans rfl
      have hcz8_2 : wr.cell? ⟨gb230, 2, none⟩ = some (.string a0_2) := (blk_cell BK230.out 2).trans rfl
      have hcz8_3 : wr.cell? ⟨gb230, 3, none⟩ = some (.slice A0_3 l0_3.length c0_3) := (blk_cell BK230.out 3).trans rfl
      have hfz8_0 := blk_frozen BK230.out 0
      have hfz8_1 := blk_frozen BK230.out 1
      have hfz8_2 := blk_frozen BK230.out 2
      have hfz8_3 := blk_frozen BK230.out 3
      have p231 : 0 ≤ (x5_1 : Int) := of_decide_eq_true (by (with_reducible assumption))
      have q231 : x5_1 < (l0_3.length : Int) := of_decide_eq_true (by (with_reducible assumption))
      obtain ⟨ad231, e231, hx231_0⟩ := Kd.at_int HR0_3.out x5_1 p231 q231
      cases e231
      replace hx231_0 := (HB.out.cell (World.block_lt_of_cell? w _ hx231_0)).trans hx231_0
      replace p231 := eq_true p231
      replace q231 := eq_true q231
      go_wp2
      go_roundg k1
      case measure => have := HK1.out; omega
      case rel => exact ⟨(wrap64 (x5_1 + 1)), (by rfl), H', ⟨by have := HK1.out; omega⟩, ⟨by (with_reducible repeat (refine blk_drew ?_)); exact BK230.out⟩, ⟨by repeat ((with_reducible exact HB.out))⟩⟩
    ·rw [if_neg c5] at H
     exact absurd H (by simp)
   ·rw [if_neg c4] at H
    have c4b0 : decide (x5_1 < (l0_3.length : Int)) = false := decide_eq_false c4
    clear c4
    obtain rfl := Option.some.inj H
    have hcz9_0 : wr.cell? ⟨gb230, 0, none⟩ = some (.int .i64 a0_0) := (blk_cell BK230.out 0).trans rfl
    have hcz9_1 : wr.cell? ⟨gb230, 1, none⟩ = some (.string a0_1) := (blk_cell BK230.out 1).trans rfl
    have hcz9_2 : wr.cell? ⟨gb230, 2, none⟩ = some (.string a0_2) := (blk_cell BK230.out 2).trans rfl
    have hcz9_3 : wr.cell? ⟨gb230, 3, none⟩ = some (.slice A0_3 l0_3.length c0_3) := (blk_cell BK230.out 3).trans rfl
    have hfz9_0 := blk_frozen BK230.out 0
    have hfz9_1 := blk_frozen BK230.out 1
    have hfz9_2 := blk_frozen BK230.out 2
    have hfz9_3 := blk_frozen BK230.out 3
    go_wp2
    go_ret
    exact ⟨by rfl, by repeat ((with_reducible exact HB.out))⟩

/-! ### r20_plain: function 68 -/
def r20_plain.f (a0 : Int) : Option (Bool) := if a0 ≥ 97 then (if a0 ≤ 122 then (some true) else (if a0 ≥ 48 then (some (decide (a0 ≤ 57))) else (some false))) else (if a0 ≥ 48 then (some (decide (a0 ≤ 57))) else (some false))
set_option maxHeartbeats 8000000 in
set_option maxRecDepth 100000 in
theorem r20_plain.calls (a0 : Int) (r : Bool) (w : World) (h : r20_plain.f a0 = some r) :
  Calls Tryd.prog 68 #[.int .u8 a0] w fun e w' => e = .returned (.bool r) ∧ Drawn0 w w' := by
 have H : (if a0 ≥ 97 then (if a0 ≤ 122 then (some true) else (if a0 ≥ 48 then (some (decide (a0 ≤ 57))) else (some false))) else (if a0 ≥ 48 then (some (decide (a0 ≤ 57))) else (some false))) = some r := h
 clear h
 by_cases c2 : a0 ≥ 97
 ·rw [if_pos c2] at H
  have c2b0 : decide (97 ≤ a0) = true := decide_eq_true c2
  clear c2
  by_cases c3 : a0 ≤ 122
  ·rw [if_pos c3] at H
   have c3b0 : decide (a0 ≤ 122) = true := decide_eq_true c3
   clear c3
   obtain rfl := Option.some.inj H
   go_enter Tryd.func68, Tryd.ntmps68
   go_wp2
   go_ret
   exact ⟨by rfl, by repeat (exact Drawn0.refl _)⟩
  ·rw [if_neg c3] at H
   have c3b0 : decide (a0 ≤ 122) = false := decide_eq_false c3
   clear c3
   by_cases c4 : a0 ≥ 48
   ·rw [if_pos c4] at H
    have c4b0 : decide (48 ≤ a0) = true := decide_eq_true c4
    clear c4
    obtain rfl := Option.some.inj H
    go_enter Tryd.func68, Tryd.ntmps68
    go_wp2
    go_ret
    exact ⟨by rfl, by repeat (exact Drawn0.refl _)⟩
   ·rw [if_neg c4] at H
    have c4b0 : decide (48 ≤ a0) = false := decide_eq_false c4
    clear c4
    obtain rfl := Option.some.inj H
    go_enter Tryd.func68, Tryd.ntmps68
    go_wp2
    go_ret
    exact ⟨by rfl, by repeat (exact Drawn0.refl _)⟩
 ·rw [if_neg c2] at H
  have c2b0 : decide (97 ≤ a0) = false := decide_eq_false c2
  clear c2
  by_cases c5 : a0 ≥ 48
  ·rw [if_pos c5] at H
   have c5b0 : decide (48 ≤ a0) = true := decide_eq_true c5
   clear c5
   obtain rfl := Option.some.inj H
   go_enter Tryd.func68, Tryd.ntmps68
   go_wp2
   go_ret
   exact ⟨by rfl, by repeat (exact Drawn0.refl _)⟩
  ·rw [if_neg c5] at H
   have c5b0 : decide (48 ≤ a0) = false := decide_eq_false c5
   clear c5
   obtain rfl := Option.some.inj H
   go_enter Tryd.func68, Tryd.ntmps68
   go_wp2
   go_ret
   exact ⟨by rfl, by repeat (exact Drawn0.refl _)⟩

/-! ### r20_Bucket: function 48 -/
mutual
def r20_Bucket.j0 : Nat → ByteArray → Bool → Option (Int)
 | 0, _, _ => none
 | k + 1, x0, x26 => if x26 = true then (some 15) else (r20_Bucket.l0 k x0 0)
def r20_Bucket.l0 : Nat → ByteArray → Int → Option (Int)
 | 0, _, _ => none
 | k + 1, x0, x3 => if x3 < (x0.size : Int) then (if 0 ≤ x3 then ((r20_plain.f (bt x0 x3)).bind fun t234 => (if t234 = true then (r20_Bucket.l0 k x0 (wrap64 (x3 + 1))) else (if (bt x0 x3) = 45 then (r20_Bucket.l0 k x0 (wrap64 (x3 + 1))) else (some 15)))) else (none)) else (some 0)
end
def r20_Bucket.f (k : Nat) (a0 : ByteArray) : Option (Int) := if (a0.size : Int) < 3 then (r20_Bucket.j0 k a0 true) else (if (a0.size : Int) > 12 then (r20_Bucket.j0 k a0 true) else (if 0 < (a0.size : Int) then ((r20_plain.f (bt a0 0)).bind fun t232 => (if t232 = true then (if 0 ≤ (wrap64 ((a0.size : Int) - 1)) then (if (wrap64 ((a0.size : Int) - 1)) < (a0.size : Int) then ((r20_plain.f (bt a0 (wrap64 ((a0.size : Int) - 1)))).bind fun t233 => (r20_Bucket.j0 k a0 (!t233))) else (none)) else (none)) else (r20_Bucket.j0 k a0 true))) else (none)))
theorem r20_Bucket.mono_l : ∀ k, (∀ y0 y1, LeO (r20_Bucket.j0 k y0 y1) (r20_Bucket.j0 (k + 1) y0 y1)) ∧ (∀ y0 y1, LeO (r20_Bucket.l0 k y0 y1) (r20_Bucket.l0 (k + 1) y0 y1))
 | 0 => ⟨fun _ _ r h => by simp [r20_Bucket.j0] at h, fun _ _ r h => by simp [r20_Bucket.l0] at h⟩
 | k + 1 => by
  obtain ⟨ih0, ih1⟩ := r20_Bucket.mono_l k
  refine ⟨?_, ?_⟩
  ·intro y0 y1
   unfold r20_Bucket.j0
   repeat' first
   | (with_reducible exact ih0 _ _)
   | (with_reducible exact ih1 _ _)
   | (with_reducible exact LeO.refl _)
   | (with_reducible exact LeO.none _)
   | (with_reducible refine LeO.ite ?_ ?_)
   | (with_reducible refine LeO.bind ?_ (fun _ => ?_))
   | exact ih0 _ _
   | exact ih1 _ _
   | exact LeO.none _
   | refine LeO.ite ?_ ?_
   | refine LeO.bind ?_ (fun _ => ?_)
  ·intro y0 y1
   unfold r20_Bucket.l0
   repeat' first
   | (with_reducible exact ih0 _ _)
   | (with_reducible exact ih1 _ _)
   | (with_reducible exact LeO.refl _)
   | (with_reducible exact LeO.none _)
   | (with_reducible refine LeO.ite ?_ ?_)
   | (with_reducible refine LeO.bind ?_ (fun _ => ?_))
   | exact ih0 _ _
   | exact ih1 _ _
   | exact LeO.none _
   | refine LeO.ite ?_ ?_
   | refine LeO.bind ?_ (fun _ => ?_)
theorem r20_Bucket.mono : ∀ a0 k, LeO (r20_Bucket.f k a0) (r20_Bucket.f (k + 1) a0) := by
 intro a0 k
 obtain ⟨ih0, ih1⟩ := r20_Bucket.mono_l k
 unfold r20_Bucket.f
 repeat' first
   | (with_reducible exact ih0 _ _)
   | (with_reducible exact ih1 _ _)
   | (with_reducible exact LeO.refl _)
   | (with_reducible exact LeO.none _)
   | (with_reducible refine LeO.ite ?_ ?_)
   | (with_reducible refine LeO.bind ?_ (fun _ => ?_))
   | exact ih0 _ _
   | exact ih1 _ _
   | exact LeO.none _
   | refine LeO.ite ?_ ?_
   | refine LeO.bind ?_ (fun _ => ?_)
set_option maxHeartbeats 8000000 in
set_option maxRecDepth 100000 in
theorem r20_Bucket.calls (k : Nat) (a0 : ByteArray) (r : Int) (w : World) (h : r20_Bucket.f k a0 = some r) :
  Calls Tryd.prog 48 #[.string a0] w fun e w' => e = .returned (.int .i64 r) ∧ Drawn0 w w' := by
 have H : (if (a0.size : Int) < 3 then (r20_Bucket.j0 k a0 true) else (if (a0.size : Int) > 12 then (r20_Bucket.j0 k a0 true) else (if 0 < (a0.size : Int) then ((r20_plain.f (bt a0 0)).bind fun t232 => (if t232 = true then (if 0 ≤ (wrap64 ((a0.size : Int) - 1)) then (if (wrap64 ((a0.size : Int) - 1)) < (a0.size : Int) then ((r20_plain.f (bt a0 (wrap64 ((a0.size : Int) - 1)))).bind fun t233 => (r20_Bucket.j0 k a0 (!t233))) else (none)) else (none)) else (r20_Bucket.j0 k a0 true))) else (none)))) = some r := h
 clear h
 have HC2 := Aside0.mk H
 clear H
 go_enter Tryd.func48, Tryd.ntmps48
 go_upto_region 1 with (fail)
 go_cut [26] (fun v26 wc => ∃ (kq : Nat) (x26_1 : Bool), v26 = .bool x26_1 ∧ Aside0 (r20_Bucket.j0 kq a0 x26_1 = some r) ∧ Aside0 (kq ≤ k) ∧ Drawn0 w wc)
 case first =>
  have H := HC2.out
  clear HC2
  by_cases c3 : (a0.size : Int) < 3
  ·rw [if_pos c3] at H
   have c3b0 : decide ((a0.size : Int) < 3) = true := decide_eq_true c3
   have c3b1 : decide (a0.size < 3) = true := decide_eq_true (by omega)
   clear c3
   (skip)
   have H' := Aside0.mk H
   clear H
   go_wp2
   go_meet
   case rel => exact ⟨_, (true), (by rfl), H', ⟨by omega⟩, by repeat (exact Drawn0.refl _)⟩
  ·rw [if_neg c3] at H
   have c3b0 : decide ((a0.size : Int) < 3) = false := decide_eq_false c3
   have c3b1 : decide (a0.size < 3) = false := decide_eq_false (by omega)
   clear c3
   (skip)
   by_cases c4 : (a0.size : Int) > 12
   ·rw [if_pos c4] at H
    have c4b0 : decide (12 < (a0.size : Int)) = true := decide_eq_true c4
    have c4b1 : decide (12 < a0.size) = true := decide_eq_true (by omega)
    clear c4
    have H' := Aside0.mk H
    clear H
    go_wp2
    go_meet
    case rel => exact ⟨_, (true), (by rfl), H', ⟨by omega⟩, by repeat (exact Drawn0.refl _)⟩
   ·rw [if_neg c4] at H
    have c4b0 : decide (12 < (a0.size : Int)) = false := decide_eq_false c4
    have c4b1 : decide (12 < a0.size) = false := decide_eq_false (by omega)
    clear c4
    by_cases c5 : 0 < (a0.size : Int)
    ·rw [if_pos c5] at H
     have c5b0 : decide (0 < (a0.size : Int)) = true := decide_eq_true c5
     have c5b1 : decide (0 < a0.size) = true := decide_eq_true (by omega)
     clear c5
     replace H := Option.bind_eq_some_iff.mp H
     obtain ⟨t232, A70, H⟩ := H
     replace H : (if t232 = true then (if 0 ≤ (wrap64 ((a0.size : Int) - 1)) then (if (wrap64 ((a0.size : Int) - 1)) < (a0.size : Int) then ((r20_plain.f (bt a0 (wrap64 ((a0.size : Int) - 1)))).bind fun t233 => (r20_Bucket.j0 k a0 (!t233))) else (none)) else (none)) else (r20_Bucket.j0 k a0 true)) = some r := H
     have A7 := Aside0.mk A70
     clear A70
     by_cases c8 : t232 = true
     ·subst c8
      have H1 : (if 0 ≤ (wrap64 ((a0.size : Int) - 1)) then (if (wrap64 ((a0.size : Int) - 1)) < (a0.size : Int) then ((r20_plain.f (bt a0 (wrap64 ((a0.size : Int) - 1)))).bind fun t233 => (r20_Bucket.j0 k a0 (!t233))) else (none)) else (none)) = some r := by rw [if_pos rfl] at H; exact H
      clear H
      have H := H1
      clear H1
      obtain ⟨ji9, hji9⟩ : ∃ j_ : Int, (wrap64 ((a0.size : Int) - 1)) = j_ := ⟨_, rfl⟩
      replace H : (if 0 ≤ (ji9) then (if (ji9) < (a0.size : Int) then ((r20_plain.f (bt a0 (ji9))).bind fun t233 => (r20_Bucket.j0 k a0 (!t233))) else (none)) else (none)) = some r := by (rw [hji9] at H; exact H)
      (try rw [hji9] at A7)
      have hji9w : (IntKind.i64.wrap ((a0.size : Int) - 1)) = ji9 := (i64_w _).trans hji9
      by_cases c10 : 0 ≤ (ji9)
      ·rw [if_pos c10] at H
       have c10b0 : decide (0 ≤ (ji9)) = true := decide_eq_true c10
       clear c10
       by_cases c11 : (ji9) < (a0.size : Int)
       ·rw [if_pos c11] at H
        have c11b0 : decide ((ji9) < (a0.size : Int)) = true := decide_eq_true c11
        clear c11
        replace H := Option.bind_eq_some_iff.mp H
        obtain ⟨t233, A130, H⟩ := H
        replace H : (r20_Bucket.j0 k a0 (!t233)) = some r := H
        have A13 := Aside0.mk A130
        clear A130
        have H' := Aside0.mk H
        clear H
        have p6 : 0 ≤ (0 : Int) := (by omega)
        have q6 : 0 < a0.size := (by have : (0 : Int) < (a0.size : Int) := of_decide_eq_true (by (with_reducible assumption)); omega)
        have hx6 : ∀ h : 0 < a0.size, ((a0[0]'h).toNat : Int) = bt a0 0 := bt_at a0 0
        clear p6
        have qi6 : (0 < (a0.size : Int)) = True := eq_true (of_decide_eq_true (by (with_reducible assumption)))
        replace q6 := eq_true q6
        go_wp2_with (first | (go_at_call 68; (with_reducible refine (r20_plain.calls (bt a0 0) true _ A7.out).mono ?_); rintro e w' ⟨rfl, ⟨nd, rfl⟩⟩; have p12 : 0 ≤ ((ji9) : Int) := of_decide_eq_true (by (with_reducible assumption)); have q12 : (ji9) < (a0.size : Int) := of_decide_eq_true (by (with_reducible assumption)); have hx12 := bt_at a0 (ji9); replace p12 := eq_true p12; replace q12 := eq_true q12) | (go_at_call 68; (with_reducible refine (r20_plain.calls (bt a0 (ji9)) t233 _ A13.out).mono ?_); rintro e w' ⟨rfl, ⟨nd, rfl⟩⟩))
        go_meet
        case rel => exact ⟨_, (!t233), (by rfl), H', ⟨by omega⟩, by repeat (first | exact Drawn0.refl _ | apply Drawn0.step)⟩
       ·rw [if_neg c11] at H
        exact absurd H (by simp)
      ·rw [if_neg c10] at H
       exact absurd H (by simp)
     ·replace c8 := Bool.eq_false_iff.mpr c8
      subst c8
      have H1 : (r20_Bucket.j0 k a0 true) = some r := by rw [if_neg (show ¬ (false = true) by decide)] at H; exact H
      clear H
      have H := H1
      clear H1
      have H' := Aside0.mk H
      clear H
      have p6 : 0 ≤ (0 : Int) := (by omega)
      have q6 : 0 < a0.size := (by have : (0 : Int) < (a0.size : Int) := of_decide_eq_true (by (with_reducible assumption)); omega)
      have hx6 : ∀ h : 0 < a0.size, ((a0[0]'h).toNat : Int) = bt a0 0 := bt_at a0 0
      clear p6
      have qi6 : (0 < (a0.size : Int)) = True := eq_true (of_decide_eq_true (by (with_reducible assumption)))
      replace q6 := eq_true q6
      go_wp2_with ((go_at_call 68; (with_reducible refine (r20_plain.calls (bt a0 0) false _ A7.out).mono ?_); rintro e w' ⟨rfl, ⟨nd, rfl⟩⟩))
      go_meet
      case rel => exact ⟨_, (true), (by rfl), H', ⟨by omega⟩, by repeat (first | exact Drawn0.refl _ | apply Drawn0.step)⟩
    ·rw [if_neg c5] at H
     exact absurd H (by simp)
 case rest =>
  clear HC2
  try clear c1
  try clear p1
  try clear q1
  try clear hx1
  try clear p2
  try clear c3
  try clear c3b0
  try clear c3b1
  try clear c4
  try clear c4b0
  try clear c4b1
  try clear c5
  try clear c5b0
  try clear c5b1
  try clear p6
  try clear q6
  try clear hx6
  try clear qi6
  try clear c8
  try clear c10
  try clear c10b0
  try clear c11
  try clear c11b0
  try clear p12
  try clear q12
  try clear hx12
  try clear p12
  try clear p6
  try clear q12
  try clear q6
  obtain ⟨kq, x26_1, rfl, HA, HJ1, ⟨mc1, rfl⟩⟩ := hcut
  cases kq with
  | zero => exact absurd HA.out (by simp [r20_Bucket.j0])
  | succ kj1 =>
   have H := HA.out
   clear HA
   simp only [r20_Bucket.j0] at H
   by_cases c14 : x26_1 = true
   ·subst c14
    have H1 : (some 15) = some r := by rw [if_pos rfl] at H; exact H
    clear H
    have H := H1
    clear H1
    obtain rfl := Option.some.inj H
    go_wp2
    go_ret
    exact ⟨by rfl, by repeat (first | exact Drawn0.refl _ | apply Drawn0.step)⟩
   ·replace c14 := Bool.eq_false_iff.mpr c14
    subst c14
    have H1 : (r20_Bucket.l0 kj1 a0 0) = some r := by rw [if_neg (show ¬ (false = true) by decide)] at H; exact H
    clear H
    have H := H1
    clear H1
    have H' := Aside0.mk H
    clear H
    go_wp2
    go_loopg [3] kj1 (fun kq v3 w' => ∃ (x3_2 : Int), v3 = .int .i64 x3_2 ∧ Aside0 (r20_Bucket.l0 kq a0 x3_2 = some r) ∧ Aside0 (kq ≤ kj1) ∧ Drawn0 w w')
    case atStart => exact ⟨(0), (by rfl), H', ⟨Nat.le_refl _⟩, by repeat (first | exact Drawn0.refl _ | apply Drawn0.step)⟩
    case round =>
     clear H'
     try clear c1
     try clear p1
     try clear q1
     try clear hx1
     try clear p2
     try clear c3
     try clear c3b0
     try clear c3b1
     try clear c4
     try clear c4b0
     try clear c4b1
     try clear c5
     try clear c5b0
     try clear c5b1
     try clear p6
     try clear q6
     try clear hx6
     try clear qi6
     try clear c8
     try clear c10
     try clear c10b0
     try clear c11
     try clear c11b0
     try clear p12
     try clear q12
     try clear hx12
     try clear c14
     try clear p1
     try clear p12
     try clear p2
     try clear p6
     try clear q1
     try clear q12
     try clear q6
     obtain ⟨x3_2, rfl, HA, HK2, ⟨m2, rfl⟩⟩ := hrel
     cases gk with
     | zero => exact absurd HA.out (by simp [r20_Bucket.l0])
     | succ k2 =>
      have H := HA.out
      clear HA
      simp only [r20_Bucket.l0] at H
      by_cases c15 : x3_2 < (a0.size : Int)
      ·rw [if_pos c15] at H
       have c15b0 : decide (x3_2 < (a0.size : Int)) = true := decide_eq_true c15
       clear c15
       by_cases c16 : 0 ≤ x3_2
       ·rw [if_pos c16] at H
        have c16b0 : decide (0 ≤ x3_2) = true := decide_eq_true c16
        clear c16
        replace H := Option.bind_eq_some_iff.mp H
        obtain ⟨t234, A180, H⟩ := H
        replace H : (if t234 = true then (r20_Bucket.l0 k2 a0 (wrap64 (x3_2 + 1))) else (if (bt a0 x3_2) = 45 then (r20_Bucket.l0 k2 a0 (wrap64 (x3_2 + 1))) else (some 15))) = some r := H
        have A18 := Aside0.mk A180
        clear A180
        by_cases c19 : t234 = true
        ·subst c19
         have H1 : (r20_Bucket.l0 k2 a0 (wrap64 (x3_2 + 1))) = some r := by rw [if_pos rfl] at H; exact H
         clear H
         have H := H1
         clear H1
         have H' := Aside0.mk H
         clear H
         have p17 : 0 ≤ (x3_2 : Int) := of_decide_eq_true (by (with_reducible assumption))
         have q17 : x3_2 < (a0.size : Int) := of_decide_eq_true (by (with_reducible assumption))
         have hx17 := bt_at a0 x3_2
         replace p17 := eq_true p17
         replace q17 := eq_true q17
         go_wp2_with (((with_reducible refine gate_callee (f := 68) rfl ?_); refine goesL_ (some 36) rfl rfl Tryd.func68 (by kernel_rfl) rfl #[.int .u8 (bt a0 x3_2)] rfl (by (try simp only [List.map_toArray, List.map_cons, List.map_nil]); rfl) ?_; (with_reducible refine (r20_plain.calls (bt a0 x3_2) true _ A18.out).mono ?_); rintro e w' ⟨rfl, ⟨nd, rfl⟩⟩; refine ⟨_, rfl, ?_⟩))
         go_roundg k2
         case measure => have := HJ1.out; have := HK2.out; omega
         case rel => exact ⟨(wrap64 (x3_2 + 1)), (by rfl), H', ⟨by have := HJ1.out; have := HK2.out; omega⟩, by repeat (first | exact Drawn0.refl _ | apply Drawn0.step)⟩
        ·replace c19 := Bool.eq_false_iff.mpr c19
         subst c19
         have H1 : (if (bt a0 x3_2) = 45 then (r20_Bucket.l0 k2 a0 (wrap64 (x3_2 + 1))) else (some 15)) = some r := by rw [if_neg (show ¬ (false = true) by decide)] at H; exact H
         clear H
         have H := H1
         clear H1
         by_cases c21 : (bt a0 x3_2) = 45
         ·rw [if_pos c21] at H
          have c21b0 : ((bt a0 x3_2) == 45) = true := beq_iff_eq.mpr c21
          have c21b1 : ((bt a0 x3_2) != 45) = false := bne_eq_false_iff_eq.mpr c21
          clear c21
          have H' := Aside0.mk H
          clear H
          have p17 : 0 ≤ (x3_2 : Int) := of_decide_eq_true (by (with_reducible assumption))
          have q17 : x3_2 < (a0.size : Int) := of_decide_eq_true (by (with_reducible assumption))
          have hx17 := bt_at a0 x3_2
          replace p17 := eq_true p17
          replace q17 := eq_true q17
          go_wp2_with (((with_reducible refine gate_callee (f := 68) rfl ?_); refine goesL_ (some 36) rfl rfl Tryd.func68 (by kernel_rfl) rfl #[.int .u8 (bt a0 x3_2)] rfl (by (try simp only [List.map_toArray, List.map_cons, List.map_nil]); rfl) ?_; (with_reducible refine (r20_plain.calls (bt a0 x3_2) false _ A18.out).mono ?_); rintro e w' ⟨rfl, ⟨nd, rfl⟩⟩; refine ⟨_, rfl, ?_⟩; have p20 : 0 ≤ (x3_2 : Int) := of_decide_eq_true (by (with_reducible assumption)); have q20 : x3_2 < (a0.size : Int) := of_decide_eq_true (by (with_reducible assumption)); have hx20 := bt_at a0 x3_2; replace p20 := eq_true p20; replace q20 := eq_true q20))
          go_roundg k2
          case measure => have := HJ1.out; have := HK2.out; omega
          case rel => exact ⟨(wrap64 (x3_2 + 1)), (by rfl), H', ⟨by have := HJ1.out; have := HK2.out; omega⟩, by repeat (first | exact Drawn0.refl _ | apply Drawn0.step)⟩
         ·rw [if_neg c21] at H
          have c21b0 : ((bt a0 x3_2) == 45) = false := beq_eq_false_iff_ne.mpr c21
          have c21b1 : ((bt a0 x3_2) != 45) = true := bne_iff_ne.mpr c21
          obtain rfl := Option.some.inj H
          have p17 : 0 ≤ (x3_2 : Int) := of_decide_eq_true (by (with_reducible assumption))
          have q17 : x3_2 < (a0.size : Int) := of_decide_eq_true (by (with_reducible assumption))
          have hx17 := bt_at a0 x3_2
          replace p17 := eq_true p17
          replace q17 := eq_true q17
          go_wp2_with (((with_reducible refine gate_callee (f := 68) rfl ?_); refine goesL_ (some 36) rfl rfl Tryd.func68 (by kernel_rfl) rfl #[.int .u8 (bt a0 x3_2)] rfl (by (try simp only [List.map_toArray, List.map_cons, List.map_nil]); rfl) ?_; (with_reducible refine (r20_plain.calls (bt a0 x3_2) false _ A18.out).mono ?_); rintro e w' ⟨rfl, ⟨nd, rfl⟩⟩; refine ⟨_, rfl, ?_⟩; have p20 : 0 ≤ (x3_2 : Int) := of_decide_eq_true (by (with_reducible assumption)); have q20 : x3_2 < (a0.size : Int) := of_decide_eq_true (by (with_reducible assumption)); have hx20 := bt_at a0 x3_2; replace p20 := eq_true p20; replace q20 := eq_true q20))
          go_ret
          exact ⟨by rfl, by repeat (first | exact Drawn0.refl _ | apply Drawn0.step)⟩
       ·rw [if_neg c16] at H
        exact absurd H (by simp)
      ·rw [if_neg c15] at H
       have c15b0 : decide (x3_2 < (a0.size : Int)) = false := decide_eq_false c15
       clear c15
       obtain rfl := Option.some.inj H
       go_wp2
       go_ret
       exact ⟨by rfl, by repeat (first | exact Drawn0.refl _ | apply Drawn0.step)⟩

end Go.Proofs.YtbdfmjgndeigpaaDoor.P
