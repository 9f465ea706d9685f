-- by xprint (this session's program over the kit's printer)
import Derived.Test.YtbdfmjgndeigpaaDoorPx0
import Derived.Test.YtbdfmjgndeigpaaDoorPx9
import Derived.Test.YtbdfmjgndeigpaaDoorPx22
import Derived.Test.YtbdfmjgndeigpaaDoorPx25
namespace Go.Proofs.YtbdfmjgndeigpaaDoor.P
open Go.RowKit Go.Proofs.YtbdfmjgndeigpaaDoorW.PrintWords Go.Proofs.YtbdfmjgndeigpaaDoorW.PrintLast Go.Proofs.YtbdfmjgndeigpaaDoorW.PrintMore
attribute [local go_sem] max2_int min2_int max_two min_two max_three min_three max_four min_four   -- for this text's walks alone
set_option linter.unusedVariables false
set_option linter.unusedSimpArgs false

/-! ### layout_Parse: function 23 -/
mutual
def layout_Parse.j0 : Nat → ByteArray → List (S91) → Bool → Option (Int × ByteArray × ByteArray × List Int × Int)
 | 0, _, _, _ => none
 | k + 1, x0, x4, x30 => if x30 = true then (some (0, (⟨#[]⟩ : ByteArray), (⟨#[]⟩ : ByteArray), ([] : List Int), 4)) else (if 0 < (x4.length : Int) then ((strings_Index.f (⟨#[98, 111, 99, 117, 112, 113]⟩ : ByteArray) ((rd_T91 x4 0).f2)).bind fun t300 => (if 1 < (x4.length : Int) then (if 2 ≤ (x4.length : Int) then ((some (x4.drop (2 : Int).toNat : List (S91))).bind fun y303 => (if (wrap64 (t300 + 1)) = 1 then (layout_Parse.j1 k x0 y303 false (wrap64 (t300 + 1)) ((rd_T91 x4 1).f2) (⟨#[]⟩ : ByteArray)) else (layout_Parse.j1 k x0 y303 (decide ((y303.length : Int) > 0)) (wrap64 (t300 + 1)) ((rd_T91 x4 1).f2) (⟨#[]⟩ : ByteArray)))) else (none)) else (none))) else (none))
def layout_Parse.j1 : Nat → ByteArray → List (S91) → Bool → Int → ByteArray → ByteArray → Option (Int × ByteArray × ByteArray × List Int × Int)
 | 0, _, _, _, _, _, _ => none
 | k + 1, x0, x4, x52, x303000, x303001, x303002 => if x52 = true then (if 0 < (x4.length : Int) then (if 1 ≤ (x4.length : Int) then (layout_Parse.j2 k x0 (x4.drop (1 : Int).toNat) x303000 x303001 ((rd_T91 x4 0).f2)) else (none)) else (none)) else (layout_Parse.j2 k x0 x4 x303000 x303001 x303002)
def layout_Parse.j2 : Nat → ByteArray → List (S91) → Int → ByteArray → ByteArray → Option (Int × ByteArray × ByteArray × List Int × Int)
 | 0, _, _, _, _, _ => none
 | k + 1, x0, x4, x303000, x303001, x303002 => layout_Parse.l0 k x0 x4 (x4.length : Int) 0 x303000 x303001 x303002 ([] : List Int)
def layout_Parse.l0 : Nat → ByteArray → List (S91) → Int → Int → Int → ByteArray → ByteArray → List Int → Option (Int × ByteArray × ByteArray × List Int × Int)
 | 0, _, _, _, _, _, _, _, _ => none
 | k + 1, x0, x60, x61, x62, x303000, x303001, x303002, x303003 => if x62 < x61 then (if 0 ≤ x62 then (if x62 < (x60.length : Int) then (if x303003.length < 17592186044416 then (layout_Parse.l0 k x0 x60 x61 (wrap64 (x62 + 1)) x303000 x303001 x303002 (x303003 ++ [(rd_T91 x60 x62).f1])) else (none)) else (none)) else (none)) else ((layout_Key.f k x303000 x303001 x303002 x303003).bind fun bt315 => (if bt315.2 = 0 then (if bt315.1.toList = x0.toList then (some (x303000, x303001, x303002, x303003, 0)) else (some (0, (⟨#[]⟩ : ByteArray), (⟨#[]⟩ : ByteArray), ([] : List Int), 4))) else (some (0, (⟨#[]⟩ : ByteArray), (⟨#[]⟩ : ByteArray), ([] : List Int), 4))))
end
def layout_Parse.f (k : Nat) (a0 : ByteArray) : Option (Int × ByteArray × ByteArray × List Int × Int) := (tuple_Decode.f a0).bind fun bt294 => (if bt294.2 = 0 then (if (bt294.1.length : Int) < 2 then (layout_Parse.j0 k a0 bt294.1 true) else (if 0 < (bt294.1.length : Int) then (layout_Parse.j0 k a0 bt294.1 ((((rd_T91 bt294.1 0).f2).size : Int) != 1)) else (none))) else (layout_Parse.j0 k a0 bt294.1 true))
theorem layout_Parse.mono_l : ∀ k, (∀ y0 y1 y2, LeO (layout_Parse.j0 k y0 y1 y2) (layout_Parse.j0 (k + 1) y0 y1 y2)) ∧ (∀ y0 y1 y2 y3 y4 y5, LeO (layout_Parse.j1 k y0 y1 y2 y3 y4 y5) (layout_Parse.j1 (k + 1) y0 y1 y2 y3 y4 y5)) ∧ (∀ y0 y1 y2 y3 y4, LeO (layout_Parse.j2 k y0 y1 y2 y3 y4) (layout_Parse.j2 (k + 1) y0 y1 y2 y3 y4)) ∧ (∀ y0 y1 y2 y3 y4 y5 y6 y7, LeO (layout_Parse.l0 k y0 y1 y2 y3 y4 y5 y6 y7) (layout_Parse.l0 (k + 1) y0 y1 y2 y3 y4 y5 y6 y7))
 | 0 => ⟨fun _ _ _ r h => by simp [layout_Parse.j0] at h, fun _ _ _ _ _ _ r h => by simp [layout_Parse.j1] at h, fun _ _ _ _ _ r h => by simp [layout_Parse.j2] at h, fun _ _ _ _ _ _ _ _ r h => by simp [layout_Parse.l0] at h⟩
 | k + 1 => by
  obtain ⟨ih0, ih1, ih2, ih3⟩ := layout_Parse.mono_l k
  refine ⟨?_, ?_, ?_, ?_⟩
  ·intro y0 y1 y2
   unfold layout_Parse.j0
   repeat' first
   | (with_reducible exact ih0 _ _ _)
   | (with_reducible exact ih1 _ _ _ _ _ _)
   | (with_reducible exact ih2 _ _ _ _ _)
   | (with_reducible exact ih3 _ _ _ _ _ _ _ _)
   | (with_reducible exact layout_Key.mono _ _ _ _ _)
   | (with_reducible exact LeO.refl _)
   | (with_reducible exact LeO.none _)
   | (with_reducible refine LeO.ite ?_ ?_)
   | (with_reducible refine LeO.bind ?_ (fun _ => ?_))
   | exact ih0 _ _ _
   | exact ih1 _ _ _ _ _ _
   | exact ih2 _ _ _ _ _
   | exact ih3 _ _ _ _ _ _ _ _
   | exact layout_Key.mono _ _ _ _ _
   | exact LeO.none _
   | refine LeO.ite ?_ ?_
   | refine LeO.bind ?_ (fun _ => ?_)
  ·intro y0 y1 y2 y3 y4 y5
   unfold layout_Parse.j1
   repeat' first
   | (with_reducible exact ih0 _ _ _)
   | (with_reducible exact ih1 _ _ _ _ _ _)
   | (with_reducible exact ih2 _ _ _ _ _)
   | (with_reducible exact ih3 _ _ _ _ _ _ _ _)
   | (with_reducible exact layout_Key.mono _ _ _ _ _)
   | (with_reducible exact LeO.refl _)
   | (with_reducible exact LeO.none _)
   | (with_reducible refine LeO.ite ?_ ?_)
   | (with_reducible refine LeO.bind ?_ (fun _ => ?_))
   | exact ih0 _ _ _
   | exact ih1 _ _ _ _ _ _
   | exact ih2 _ _ _ _ _
   | exact ih3 _ _ _ _ _ _ _ _
   | exact layout_Key.mono _ _ _ _ _
   | exact LeO.none _
   | refine LeO.ite ?_ ?_
   | refine LeO.bind ?_ (fun _ => ?_)
  ·intro y0 y1 y2 y3 y4
   unfold layout_Parse.j2
   repeat' first
   | (with_reducible exact ih0 _ _ _)
   | (with_reducible exact ih1 _ _ _ _ _ _)
   | (with_reducible exact ih2 _ _ _ _ _)
   | (with_reducible exact ih3 _ _ _ _ _ _ _ _)
   | (with_reducible exact layout_Key.mono _ _ _ _ _)
   | (with_reducible exact LeO.refl _)
   | (with_reducible exact LeO.none _)
   | (with_reducible refine LeO.ite ?_ ?_)
   | (with_reducible refine LeO.bind ?_ (fun _ => ?_))
   | exact ih0 _ _ _
   | exact ih1 _ _ _ _ _ _
   | exact ih2 _ _ _ _ _
   | exact ih3 _ _ _ _ _ _ _ _
   | exact layout_Key.mono _ _ _ _ _
   | exact LeO.none _
   | refine LeO.ite ?_ ?_
   | refine LeO.bind ?_ (fun _ => ?_)
  ·intro y0 y1 y2 y3 y4 y5 y6 y7
   unfold layout_Parse.l0
   repeat' first
   | (with_reducible exact ih0 _ _ _)
   | (with_reducible exact ih1 _ _ _ _ _ _)
   | (with_reducible exact ih2 _ _ _ _ _)
   | (with_reducible exact ih3 _ _ _ _ _ _ _ _)
   | (with_reducible exact layout_Key.mono _ _ _ _ _)
   | (with_reducible exact LeO.refl _)
   | (with_reducible exact LeO.none _)
   | (with_reducible refine LeO.ite ?_ ?_)
   | (with_reducible refine LeO.bind ?_ (fun _ => ?_))
   | exact ih0 _ _ _
   | exact ih1 _ _ _ _ _ _
   | exact ih2 _ _ _ _ _
   | exact ih3 _ _ _ _ _ _ _ _
   | exact layout_Key.mono _ _ _ _ _
   | exact LeO.none _
   | refine LeO.ite ?_ ?_
   | refine LeO.bind ?_ (fun _ => ?_)
theorem layout_Parse.mono : ∀ a0 k, LeO (layout_Parse.f k a0) (layout_Parse.f (k + 1) a0) := by
 intro a0 k
 obtain ⟨ih0, ih1, ih2, ih3⟩ := layout_Parse.mono_l k
 unfold layout_Parse.f
 repeat' first
   | (with_reducible exact ih0 _ _ _)
   | (with_reducible exact ih1 _ _ _ _ _ _)
   | (with_reducible exact ih2 _ _ _ _ _)
   | (with_reducible exact ih3 _ _ _ _ _ _ _ _)
   | (with_reducible exact layout_Key.mono _ _ _ _ _)
   | (with_reducible exact LeO.refl _)
   | (with_reducible exact LeO.none _)
   | (with_reducible refine LeO.ite ?_ ?_)
   | (with_reducible refine LeO.bind ?_ (fun _ => ?_))
   | exact ih0 _ _ _
   | exact ih1 _ _ _ _ _ _
   | exact ih2 _ _ _ _ _
   | exact ih3 _ _ _ _ _ _ _ _
   | exact layout_Key.mono _ _ _ _ _
   | exact LeO.none _
   | refine LeO.ite ?_ ?_
   | refine LeO.bind ?_ (fun _ => ?_)
def layout_Parse.T4 : Bool × List (List Nat × List Nat) := (true, [([], []), ([0], [0]), ([1], [1]), ([2], [2]), ([3], [3]), ([4], [4]), ([], []), ([6], [6]), ([7], [7]), ([8], [8]), ([5, 9], [5, 9]), ([], []), ([11, 10, 4, 0, 1, 2, 3, 4, 5, 6, 7, 8, 9, 10, 11], [10, 11])])
def layout_Parse.B4 : List Nat := [0, 1, 3, 7, 15, 31, 0, 64, 192, 448, 1023, 0, 4095]
theorem layout_Parse.tab4 : rtab .any (opsOf Tryd.f23 4) = layout_Parse.T4 := by kernel_rfl
theorem layout_Parse.bits4 : waitsOk layout_Parse.T4.2 layout_Parse.B4 = true := by kernel_rfl
set_option maxHeartbeats 8000000 in
set_option maxRecDepth 100000 in
theorem layout_Parse.calls (k : Nat) (a0 : ByteArray) (r1 : Int) (r2 : ByteArray) (r3 : ByteArray) (r4 : List Int) (r5 : Int) (w : World) (h : layout_Parse.f k a0 = some (r1, r2, r3, r4, r5)) :
  Calls Tryd.prog 23 #[.string a0] w fun e w' => ∃ v3_ : Value, e = .returned (.tuple #[.agg #[.int .i64 r1, .string r2, .string r3, v3_], .int .i64 r5]) ∧ Kd.R (Kd.int .i64) 3 w' w.heap.size (fun _ => True) v3_ r4 ∧ Below w.heap.size w w' := by
 have hu25 := Tryd.underlying25
 have hu91 := Tryd.underlying91
 have HB := Aside0.mk (Below.refl w.heap.size w)
 have H : ((tuple_Decode.f a0).bind fun bt294 => (if bt294.2 = 0 then (if (bt294.1.length : Int) < 2 then (layout_Parse.j0 k a0 bt294.1 true) else (if 0 < (bt294.1.length : Int) then (layout_Parse.j0 k a0 bt294.1 ((((rd_T91 bt294.1 0).f2).size : Int) != 1)) else (none))) else (layout_Parse.j0 k a0 bt294.1 true))) = some (r1, r2, r3, r4, r5) := h
 clear h
 replace H := Option.bind_eq_some_iff.mp H
 obtain ⟨⟨t294, t295⟩, A20, H⟩ := H
 replace H : (if t295 = 0 then (if (t294.length : Int) < 2 then (layout_Parse.j0 k a0 t294 true) else (if 0 < (t294.length : Int) then (layout_Parse.j0 k a0 t294 ((((rd_T91 t294 0).f2).size : Int) != 1)) else (none))) else (layout_Parse.j0 k a0 t294 true)) = some (r1, r2, r3, r4, r5) := H
 have A2 := Aside0.mk A20
 clear A20
 have HC3 := Aside0.mk H
 clear H
 go_enter Tryd.func23, Tryd.ntmps23
 go_upto_region 2 with (first | ((with_reducible refine gate_dst (N := 2) rfl ?_); (try (refine gate_guard (by rfl) ?_; dsimp only)); refine box_event ?hg (N := 2) ?hd (cs := #[.int .i64 0, .string (⟨#[]⟩ : ByteArray), .string (⟨#[]⟩ : ByteArray), .slice none 0 0]) (t := 25) ?hr ?_; (case hd => rfl); (case hg => rfl); (case hr => (go_simp; done)); intro gb293 hg w4 hbox hb; have n0_ := Aside0.mk (below_step (by repeat ((with_reducible exact HB.out))) hb); have n1_ := Aside0.mk (hbox); have n2_ := Aside0.mk ((by rw [hg]; exact (below_size (by repeat ((with_reducible exact HB.out)))) : w.heap.size ≤ gb293)); have n3_ := Aside0.mk ((by rw [hg]; exact (below_size (by repeat ((with_reducible exact HB.out)))) : w.heap.size ≤ gb293)); clear HB; have HB := n0_; have BK293 := n1_; have GW293 := n2_; have GE293 := n3_; clear n0_ n1_ n2_ n3_; clear hb hbox hg) | ((with_reducible refine gate_callee (f := 52) rfl ?_); refine goesL_ (some 13) rfl rfl Tryd.func52 (by kernel_rfl) rfl #[.string a0] rfl (by (try simp only [List.map_toArray, List.map_cons, List.map_nil]); rfl) ?_; (with_reducible refine (tuple_Decode.calls a0 t294 t295 _ A2.out).mono ?_); rintro e w5 ⟨v296, rfl, ho0, hb⟩; refine ⟨_, rfl, ?_⟩; have n0_ := Aside0.mk (Kd.R_lower ho0 (below_size (by repeat ((with_reducible exact HB.out))))); have n1_ := Aside0.mk (blk_below (g := gb293) (o := .cells #[.int .i64 0, .string (⟨#[]⟩ : ByteArray), .string (⟨#[]⟩ : ByteArray), .slice none 0 0] 25 (0, 0)) (by (with_reducible repeat (refine blk_drew ?_)); exact BK293.out) hb); have n2_ := Aside0.mk (below_step (by repeat ((with_reducible exact HB.out))) hb); clear BK293; clear HB; have HO297 := n0_; have BK293 := n1_; have HB := n2_; clear n0_ n1_ n2_; (try clear hb); (try clear hb2); (try clear hk); (try clear hi); (try clear ho0)))
 (try simp only [Act.put, List.setIfInBounds_toArray, List.set_cons_zero, List.set_cons_succ])
 go_cut [30] (fun v30 wc => ∃ (kq : Nat) (x30_2 : Bool), v30 = .bool x30_2 ∧ Aside0 (layout_Parse.j0 kq a0 t294 x30_2 = some (r1, r2, r3, r4, r5)) ∧ Aside0 (kq ≤ k) ∧ Aside0 (Kd.Q k91 91 wc w.heap.size (fun _ => True) v296 t294) ∧ Aside0 (wc.heap[gb293]? = some (.cells #[.int .i64 0, .string (⟨#[]⟩ : ByteArray), .string (⟨#[]⟩ : ByteArray), (.slice none 0 0)] 25 (0, 0))) ∧ Aside0 (Below w.heap.size w wc))
 case first =>
  have H := HC3.out
  clear HC3
  by_cases c6 : t295 = 0
  ·rw [if_pos c6] at H
   have c6b0 : (t295 == 0) = true := beq_iff_eq.mpr c6
   have c6b1 : (t295 != 0) = false := bne_eq_false_iff_eq.mpr c6
   clear c6
   (skip)
   by_cases c7 : (t294.length : Int) < 2
   ·rw [if_pos c7] at H
    have c7b0 : decide ((t294.length : Int) < 2) = true := decide_eq_true c7
    have c7b1 : decide (t294.length < 2) = true := decide_eq_true (by omega)
    clear c7
    have H' := Aside0.mk H
    clear H
    obtain ⟨Ao8, co8, eo8⟩ := Kd.R_slice HO297.out
    subst eo8
    go_wp2
    go_meet
    case rel => exact ⟨_, (true), (by rfl), H', ⟨by omega⟩, ⟨Kd.Q_of_R (by (with_reducible repeat (apply Kd.R_drew)); exact HO297.out)⟩, ⟨by (with_reducible repeat (refine blk_drew ?_)); exact BK293.out⟩, ⟨by repeat ((with_reducible exact HB.out))⟩⟩
   ·rw [if_neg c7] at H
    have c7b0 : decide ((t294.length : Int) < 2) = false := decide_eq_false c7
    have c7b1 : decide (t294.length < 2) = false := decide_eq_false (by omega)
    clear c7
    by_cases c9 : 0 < (t294.length : Int)
    ·rw [if_pos c9] at H
     have c9b0 : decide (0 < (t294.length : Int)) = true := decide_eq_true c9
     have c9b1 : decide (0 < t294.length) = true := decide_eq_true (by omega)
     clear c9
     have H' := Aside0.mk H
     clear H
     obtain ⟨Ao10, co10, eo10⟩ := Kd.R_slice HO297.out
     subst eo10
     have p298 : 0 ≤ (0 : Int) := (by omega)
     have q298 : 0 < (t294.length : Int) := of_decide_eq_true (by (with_reducible assumption))
     obtain ⟨ad298, e298, hx298_0, hx298_1, hx298_2⟩ := at_T91 (Kd.R_reads' HO297.out).2.2 0 p298 q298
     cases e298
     have qi298 : (0 < t294.length) = True := eq_true (by omega)
     (try rw [show ((0 : Int)).toNat = 0 from rfl] at hx298_0)
     (try rw [show 0 * 3 = 0 from rfl] at hx298_0)
     (try rw [Addr.add_zero'] at hx298_0)
     (try rw [show ((0 : Int)).toNat = 0 from rfl] at hx298_1)
     (try rw [show 0 * 3 = 0 from rfl] at hx298_1)
     (try rw [Addr.add_zero'] at hx298_1)
     (try rw [show ((0 : Int)).toNat = 0 from rfl] at hx298_2)
     (try rw [show 0 * 3 = 0 from rfl] at hx298_2)
     (try rw [Addr.add_zero'] at hx298_2)
     replace p298 := eq_true p298
     replace q298 := eq_true q298
     go_wp2
     go_meet
     case rel => exact ⟨_, (((((rd_T91 t294 0).f2).size : Int) != 1)), (by rfl), H', ⟨by omega⟩, ⟨Kd.Q_of_R (by (with_reducible repeat (apply Kd.R_drew)); exact HO297.out)⟩, ⟨by (with_reducible repeat (refine blk_drew ?_)); exact BK293.out⟩, ⟨by repeat ((with_reducible exact HB.out))⟩⟩
    ·rw [if_neg c9] at H
     exact absurd H (by simp)
  ·rw [if_neg c6] at H
   have c6b0 : (t295 == 0) = false := beq_eq_false_iff_ne.mpr c6
   have c6b1 : (t295 != 0) = true := bne_iff_ne.mpr c6
   (skip)
   have H' := Aside0.mk H
   clear H
   go_wp2
   go_meet
   case rel => exact ⟨_, (true), (by rfl), H', ⟨by omega⟩, ⟨Kd.Q_of_R (by (with_reducible repeat (apply Kd.R_drew)); exact HO297.out)⟩, ⟨by (with_reducible repeat (refine blk_drew ?_)); exact BK293.out⟩, ⟨by repeat ((with_reducible exact HB.out))⟩⟩
 case rest =>
  clear HC3
  try clear c2
  try clear p2
  try clear q2
  try clear hx2
  try clear qi2
  try clear c5
  try clear c6
  try clear c6b0
  try clear c6b1
  try clear c7
  try clear c7b0
  try clear c7b1
  try clear c9
  try clear c9b0
  try clear c9b1
  try clear hx298_0
  try clear hx298_1
  try clear hx298_2
  try clear p298
  try clear q298
  obtain ⟨kq, x30_2, rfl, HA, HJ2, HO_4, BK293, HB⟩ := hcut
  cases kq with
  | zero => exact absurd HA.out (by simp [layout_Parse.j0])
  | succ kj2 =>
   have H := HA.out
   clear HA
   simp only [layout_Parse.j0] at H
   by_cases c11 : x30_2 = true
   ·subst c11
    have H1 : (some (0, (⟨#[]⟩ : ByteArray), (⟨#[]⟩ : ByteArray), ([] : List Int), 4)) = some (r1, r2, r3, r4, r5) := by rw [if_pos rfl] at H; exact H
    clear H
    have H := H1
    clear H1
    simp only [Option.some.injEq, Prod.mk.injEq] at H
    obtain ⟨rfl, rfl, rfl, rfl, rfl⟩ := H
    have hcz12_0 : wc.cell? ⟨gb293, 0, none⟩ = some (.int .i64 0) := (blk_cell BK293.out 0).trans rfl
    have hcz12_1 : wc.cell? ⟨gb293, 1, none⟩ = some (.string (⟨#[]⟩ : ByteArray)) := (blk_cell BK293.out 1).trans rfl
    have hcz12_2 : wc.cell? ⟨gb293, 2, none⟩ = some (.string (⟨#[]⟩ : ByteArray)) := (blk_cell BK293.out 2).trans rfl
    have hcz12_3 : wc.cell? ⟨gb293, 3, none⟩ = some (.slice none 0 0) := (blk_cell BK293.out 3).trans rfl
    have hfz12_0 := blk_frozen BK293.out 0
    have hfz12_1 := blk_frozen BK293.out 1
    have hfz12_2 := blk_frozen BK293.out 2
    have hfz12_3 := blk_frozen BK293.out 3
    go_wp2
    refine bodyPost_ret (results_ct rfl _ _ gb293 25 #[.int .i64 0, .string (⟨#[]⟩ : ByteArray), .string (⟨#[]⟩ : ByteArray), .slice none 0 0] (0, 0) _ rfl (by (with_reducible repeat (refine blk_drew ?_)); refine blk_put (cs := #[.int .i64 0, .string (⟨#[]⟩ : ByteArray), .string (⟨#[]⟩ : ByteArray), .slice none 0 0]) ?_ 3 _ rfl; (with_reducible repeat (refine blk_drew ?_)); refine blk_put (cs := #[.int .i64 0, .string (⟨#[]⟩ : ByteArray), .string (⟨#[]⟩ : ByteArray), .slice none 0 0]) ?_ 2 _ rfl; (with_reducible repeat (refine blk_drew ?_)); refine blk_put (cs := #[.int .i64 0, .string (⟨#[]⟩ : ByteArray), .string (⟨#[]⟩ : ByteArray), .slice none 0 0]) ?_ 1 _ rfl; (with_reducible repeat (refine blk_drew ?_)); refine blk_put (cs := #[.int .i64 0, .string (⟨#[]⟩ : ByteArray), .string (⟨#[]⟩ : ByteArray), .slice none 0 0]) ?_ 0 _ rfl; (with_reducible repeat (refine blk_drew ?_)); exact BK293.out) Tryd.underlying25 rfl (by kernel_rfl)) rfl ?_
    exact ⟨_, by rfl, by exact Kd.R_nil _ _ _ _ _, by repeat ((with_reducible first | exact HB.out | refine below_set ?_ GE293.out))⟩
   ·replace c11 := Bool.eq_false_iff.mpr c11
    subst c11
    have H1 : (if 0 < (t294.length : Int) then ((strings_Index.f (⟨#[98, 111, 99, 117, 112, 113]⟩ : ByteArray) ((rd_T91 t294 0).f2)).bind fun t300 => (if 1 < (t294.length : Int) then (if 2 ≤ (t294.length : Int) then ((some (t294.drop (2 : Int).toNat : List (S91))).bind fun y303 => (if (wrap64 (t300 + 1)) = 1 then (layout_Parse.j1 kj2 a0 y303 false (wrap64 (t300 + 1)) ((rd_T91 t294 1).f2) (⟨#[]⟩ : ByteArray)) else (layout_Parse.j1 kj2 a0 y303 (decide ((y303.length : Int) > 0)) (wrap64 (t300 + 1)) ((rd_T91 t294 1).f2) (⟨#[]⟩ : ByteArray)))) else (none)) else (none))) else (none)) = some (r1, r2, r3, r4, r5) := by rw [if_neg (show ¬ (false = true) by decide)] at H; exact H
    clear H
    have H := H1
    clear H1
    by_cases c13 : 0 < (t294.length : Int)
    ·rw [if_pos c13] at H
     have c13b0 : decide (0 < (t294.length : Int)) = true := decide_eq_true c13
     have c13b1 : decide (0 < t294.length) = true := decide_eq_true (by omega)
     clear c13
     replace H := Option.bind_eq_some_iff.mp H
     obtain ⟨t300, A140, H⟩ := H
     replace H : (if 1 < (t294.length : Int) then (if 2 ≤ (t294.length : Int) then ((some (t294.drop (2 : Int).toNat : List (S91))).bind fun y303 => (if (wrap64 (t300 + 1)) = 1 then (layout_Parse.j1 kj2 a0 y303 false (wrap64 (t300 + 1)) ((rd_T91 t294 1).f2) (⟨#[]⟩ : ByteArray)) else (layout_Parse.j1 kj2 a0 y303 (decide ((y303.length : Int) > 0)) (wrap64 (t300 + 1)) ((rd_T91 t294 1).f2) (⟨#[]⟩ : ByteArray)))) else (none)) else (none)) = some (r1, r2, r3, r4, r5) := H
     have A14 := Aside0.mk A140
     clear A140
     by_cases c15 : 1 < (t294.length : Int)
     ·rw [if_pos c15] at H
      have c15b0 : decide (1 < (t294.length : Int)) = true := decide_eq_true c15
      have c15b1 : decide (1 < t294.length) = true := decide_eq_true (by omega)
      clear c15
      by_cases c16 : 2 ≤ (t294.length : Int)
      ·rw [if_pos c16] at H
       have c16b0 := eq_true c16
       have c16b1 : decide (2 ≤ (t294.length : Int)) = true := decide_eq_true c16
       clear c16
       obtain ⟨y303, hy303⟩ : ∃ y_ : List (S91), y_ = (t294.drop (2 : Int).toNat) := ⟨_, rfl⟩
       replace H : (if (wrap64 (t300 + 1)) = 1 then (layout_Parse.j1 kj2 a0 y303 false (wrap64 (t300 + 1)) ((rd_T91 t294 1).f2) (⟨#[]⟩ : ByteArray)) else (layout_Parse.j1 kj2 a0 y303 (decide ((y303.length : Int) > 0)) (wrap64 (t300 + 1)) ((rd_T91 t294 1).f2) (⟨#[]⟩ : ByteArray))) = some (r1, r2, r3, r4, r5) := by (have H2_ := (Option.bind_some _ _).symm.trans H; rw [hy303]; with_reducible exact H2_)
       have Ny303 := Aside0.mk hy303
       clear hy303
       have HC17 := Aside0.mk H
       clear H
       try go_wp2
       have n0_ := Aside0.mk (Kd.Q_drew HO_4.out)
       have n1_ := Aside0.mk (blk_drew BK293.out)
       have n2_ := Aside0.mk (below_drew1 HB.out)
       clear HO_4
       clear BK293
       clear HB
       have HO_4 := n0_
       have BK293 := n1_
       have HB := n2_
       clear n0_ n1_ n2_
       obtain ⟨Ao19, co19, eo19, _⟩ := Kd.Q_slice HO_4.out
       (subst eo19)
       have p299 : 0 ≤ (0 : Int) := (by omega)
       have q299 : 0 < (t294.length : Int) := of_decide_eq_true (by (with_reducible assumption))
       obtain ⟨ad299, e299, hx299_0, hx299_1, hx299_2⟩ := at_T91 (Kd.Q_reads' HO_4.out).2.2 0 p299 q299
       cases e299
       have qi299 : (0 < t294.length) = True := eq_true (by omega)
       (try rw [show ((0 : Int)).toNat = 0 from rfl] at hx299_0)
       (try rw [show 0 * 3 = 0 from rfl] at hx299_0)
       (try rw [Addr.add_zero'] at hx299_0)
       (try rw [show ((0 : Int)).toNat = 0 from rfl] at hx299_1)
       (try rw [show 0 * 3 = 0 from rfl] at hx299_1)
       (try rw [Addr.add_zero'] at hx299_1)
       (try rw [show ((0 : Int)).toNat = 0 from rfl] at hx299_2)
       (try rw [show 0 * 3 = 0 from rfl] at hx299_2)
       (try rw [Addr.add_zero'] at hx299_2)
       replace p299 := eq_true p299
       replace q299 := eq_true q299
       have p301 : 0 ≤ (1 : Int) := (by omega)
       have q301 : 1 < (t294.length : Int) := of_decide_eq_true (by (with_reducible assumption))
       obtain ⟨ad301, e301, hx301_0, hx301_1, hx301_2⟩ := at_T91 (Kd.Q_reads' HO_4.out).2.2 1 p301 q301
       obtain rfl : ad299 = ad301 := (by injection e301)
       (try simp only [show (1 : Int).toNat = 1 from rfl, Nat.reduceMul, Nat.reduceEqDiff, Go.Addr.add, ↓reduceIte] at hx301_0)
       (try simp only [show (1 : Int).toNat = 1 from rfl, Nat.reduceMul, Nat.reduceEqDiff, Go.Addr.add, ↓reduceIte] at hx301_1)
       (try simp only [show (1 : Int).toNat = 1 from rfl, Nat.reduceMul, Nat.reduceEqDiff, Go.Addr.add, ↓reduceIte] at hx301_2)
       have qi301 : (1 < t294.length) = True := eq_true (by omega)
       (try rw [show ((1 : Int)).toNat = 1 from rfl] at hx301_0)
       (try rw [show 1 * 3 = 3 from rfl] at hx301_0)
       (try rw [show ((1 : Int)).toNat = 1 from rfl] at hx301_1)
       (try rw [show 1 * 3 = 3 from rfl] at hx301_1)
       (try rw [show ((1 : Int)).toNat = 1 from rfl] at hx301_2)
       (try rw [show 1 * 3 = 3 from rfl] at hx301_2)
       replace p301 := eq_true p301
       replace q301 := eq_true q301
       refine start_ (n := 13) (S := fun w' => w'.cell? ad299 = some (.int .i64 ((rd_T91 t294 0).f0)) ∧ w'.cell? ⟨ad299.block, ad299.off + 1, none⟩ = some (.int .i64 ((rd_T91 t294 0).f1)) ∧ w'.cell? ⟨ad299.block, ad299.off + 2, none⟩ = some (.string ((rd_T91 t294 0).f2)) ∧ w'.cell? ⟨ad299.block, ad299.off + 3, none⟩ = some (.int .i64 ((rd_T91 t294 1).f0)) ∧ w'.cell? ⟨ad299.block, ad299.off + 3 + 1, none⟩ = some (.int .i64 ((rd_T91 t294 1).f1)) ∧ w'.cell? ⟨ad299.block, ad299.off + 3 + 2, none⟩ = some (.string ((rd_T91 t294 1).f2))) (ds := []) #[false, false, false, false, false, false, false, false, false, false, false, false, false] (by kernel_rfl) rfl rfl ⟨hx299_0, hx299_1, hx299_2, hx301_0, hx301_1, hx301_2⟩ (fun hHeld => ?_); refine with_tabW layout_Parse.tab4 layout_Parse.bits4 (fun HT_ HW_ => ?_)
       generalize wc.drew = w18 at HO_4 BK293 HB hx299_0 hx299_1 hx299_2 hx301_0 hx301_1 hx301_2 hHeld ⊢
       refine pure_ (i := 0) (N := some 32) (v := ?_) (a' := ?_) #[true, false, false, false, false, false, false, false, false, false, false, false, false] rfl rfl (any_of HT_.out (by kernel_rfl)) (fun _ _ _ h => h) (Or.inl ⟨by rfl, ?_⟩) ?_ ?_
       rotate_left
       ·intro w'
        go_simp
        with_reducible rfl
       rotate_left
       ·simp only [Act.put, List.setIfInBounds_toArray, List.set_cons_zero, List.set_cons_succ, i64_w, i32_w]
        rfl
       refine pure_ (i := 1) (N := some 33) (v := ?_) (a' := ?_) #[true, true, false, false, false, false, false, false, false, false, false, false, false] rfl rfl (any_of HT_.out (by kernel_rfl)) (fun _ _ _ h => h) (Or.inl ⟨by rfl, ?_⟩) ?_ ?_
       rotate_left
       ·intro w'
        go_simp
        with_reducible rfl
       rotate_left
       ·simp only [Act.put, List.setIfInBounds_toArray, List.set_cons_zero, List.set_cons_succ, i64_w, i32_w]
        rfl
       refine pure_ (i := 2) (N := some 34) (v := ?_) (a' := ?_) #[true, true, true, false, false, false, false, false, false, false, false, false, false] rfl rfl (any_of HT_.out (by kernel_rfl)) (fun _ _ _ h => h) (Or.inl ⟨by rfl, ?_⟩) ?_ ?_
       rotate_left
       ·intro w'
        go_simp
        with_reducible rfl
       rotate_left
       ·simp only [Act.put, List.setIfInBounds_toArray, List.set_cons_zero, List.set_cons_succ, i64_w, i32_w]
        rfl
       refine pure_ (i := 6) (N := some 38) (v := ?_) (a' := ?_) #[true, true, true, false, false, false, true, false, false, false, false, false, false] rfl rfl (any_of HT_.out (by kernel_rfl)) (fun _ _ _ h => h) (Or.inl ⟨by rfl, ?_⟩) ?_ ?_
       rotate_left
       ·intro w'
        go_simp
        with_reducible rfl
       rotate_left
       ·simp only [Act.put, List.setIfInBounds_toArray, List.set_cons_zero, List.set_cons_succ, i64_w, i32_w]
        rfl
       refine pure_ (i := 7) (N := some 39) (v := ?_) (a' := ?_) #[true, true, true, false, false, false, true, true, false, false, false, false, false] rfl rfl (any_of HT_.out (by kernel_rfl)) (fun _ _ _ h => h) (Or.inl ⟨by rfl, ?_⟩) ?_ ?_
       rotate_left
       ·intro w'
        go_simp
        with_reducible rfl
       rotate_left
       ·simp only [Act.put, List.setIfInBounds_toArray, List.set_cons_zero, List.set_cons_succ, i64_w, i32_w]
        rfl
       refine pure_ (i := 8) (N := some 40) (v := ?_) (a' := ?_) #[true, true, true, false, false, false, true, true, true, false, false, false, false] rfl rfl (any_of HT_.out (by kernel_rfl)) (fun _ _ _ h => h) (Or.inl ⟨by rfl, ?_⟩) ?_ ?_
       rotate_left
       ·intro w'
        go_simp
        with_reducible rfl
       rotate_left
       ·simp only [Act.put, List.setIfInBounds_toArray, List.set_cons_zero, List.set_cons_succ, i64_w, i32_w]
        rfl
       refine take_ (i := 3) (N := some 35) (v := ?_) (a' := ?_) #[true, true, true, true, false, false, true, true, true, false, false, false, false] rfl rfl (take_ofW HT_.out HW_.out (by kernel_rfl)) (fun _ _ _ h => h) (Or.inl ⟨by rfl, ?_⟩) hHeld ?_ ?_
       rotate_left
       ·rintro w' ⟨s0, s1, s2, s3, s4, s5⟩
        go_simp
        with_reducible rfl
       rotate_left
       ·simp only [Act.put, List.setIfInBounds_toArray, List.set_cons_zero, List.set_cons_succ, i64_w, i32_w]
        rfl
       refine take_ (i := 9) (N := some 41) (v := ?_) (a' := ?_) #[true, true, true, true, false, false, true, true, true, true, false, false, false] rfl rfl (take_ofW HT_.out HW_.out (by kernel_rfl)) (fun _ _ _ h => h) (Or.inl ⟨by rfl, ?_⟩) hHeld ?_ ?_
       rotate_left
       ·rintro w' ⟨s0, s1, s2, s3, s4, s5⟩
        go_simp
        with_reducible rfl
       rotate_left
       ·simp only [Act.put, List.setIfInBounds_toArray, List.set_cons_zero, List.set_cons_succ, i64_w, i32_w]
        rfl
       refine join_ (σ := Nat) 1 #[true, true, true, true, true, true, true, true, true, true, true, true, false] (fun s_ => [(36, .int .i64 t300), (6, .pointer (some ⟨s_, 0, none⟩)), (37, .int .i64 (wrap64 (t300 + 1))), (42, .agg #[.int .i64 (wrap64 (t300 + 1)), .string ((rd_T91 t294 1).f2), .string (⟨#[]⟩ : ByteArray), .slice none 0 0])]) (fun s_ w' => (w'.cell? ad299 = some (.int .i64 ((rd_T91 t294 0).f0)) ∧ w'.cell? ⟨ad299.block, ad299.off + 1, none⟩ = some (.int .i64 ((rd_T91 t294 0).f1)) ∧ w'.cell? ⟨ad299.block, ad299.off + 2, none⟩ = some (.string ((rd_T91 t294 0).f2)) ∧ w'.cell? ⟨ad299.block, ad299.off + 3, none⟩ = some (.int .i64 ((rd_T91 t294 1).f0)) ∧ w'.cell? ⟨ad299.block, ad299.off + 3 + 1, none⟩ = some (.int .i64 ((rd_T91 t294 1).f1)) ∧ w'.cell? ⟨ad299.block, ad299.off + 3 + 2, none⟩ = some (.string ((rd_T91 t294 1).f2))) ∧ (Kd.Q k91 91 w' w.heap.size (fun _ => True) (.slice (some ad299) t294.length co19) t294) ∧ (w'.heap[gb293]? = some (.cells #[.int .i64 0, .string (⟨#[]⟩ : ByteArray), .string (⟨#[]⟩ : ByteArray), .slice none 0 0] 25 (0, 0))) ∧ (w'.heap[s_]? = some (.cells #[.int .i64 0, .string (⟨#[]⟩ : ByteArray), .string (⟨#[]⟩ : ByteArray), .slice none 0 0] 25 (0, 0))) ∧ (w.heap.size ≤ s_) ∧ (w.heap.size ≤ s_) ∧ (gb293 ≠ s_) ∧ (s_ ≠ gb293) ∧ (Below w.heap.size w w')) ?_ ?_
       rotate_left
       ·intro hCont
        refine two_ (i := 4) (j := 11) (Ni := some 36) (Nj := some 6) #[true, true, true, true, true, false, true, true, true, true, false, false, false] #[true, true, true, true, false, false, true, true, true, true, false, true, false] rfl rfl rfl rfl (two_of HT_.out (by kernel_rfl)) (by decide) (by decide) (fun K hK => ?_) (fun K hK => ?_)
        ·skip
         refine goes_ Tryd.func53 (by kernel_rfl) rfl #[.string (⟨#[98, 111, 99, 117, 112, 113]⟩ : ByteArray), .string ((rd_T91 t294 0).f2)] (by rfl) rfl rfl (by (try simp only [List.map_toArray, List.map_cons, List.map_nil]); rfl) ?_
         with_reducible refine (strings_Index.calls (⟨#[98, 111, 99, 117, 112, 113]⟩ : ByteArray) ((rd_T91 t294 0).f2) t300 _ A14.out).mono ?_
         rintro e w' ⟨rfl, ⟨nd, rfl⟩⟩
         refine ⟨_, rfl, ?_⟩
         refine hK.out _ _ ⟨hHeld.1, hHeld.2.1, hHeld.2.2.1, hHeld.2.2.2.1, hHeld.2.2.2.2.1, hHeld.2.2.2.2.2⟩ (fun hHeld => ?_)
         clear hK K
         refine norm_ (a' := ?_) ?_ ?_
         rotate_left
         ·show Act.put _ (some 36) _ = _
          simp only [Act.put, List.setIfInBounds_toArray, List.set_cons_zero, List.set_cons_succ, i64_w, i32_w]
          rfl
         refine pure_ (i := 5) (N := some 37) (v := ?_) (a' := ?_) #[true, true, true, true, true, true, true, true, true, true, false, false, false] rfl rfl (any_of HT_.out (by kernel_rfl)) (fun _ _ _ h => h) (Or.inl ⟨by rfl, ?_⟩) ?_ ?_
         rotate_left
         ·intro w'
          go_simp
          with_reducible rfl
         rotate_left
         ·simp only [Act.put, List.setIfInBounds_toArray, List.set_cons_zero, List.set_cons_succ, i64_w, i32_w]
          rfl
         refine pure_ (i := 10) (N := some 42) (v := ?_) (a' := ?_) #[true, true, true, true, true, true, true, true, true, true, true, false, false] rfl rfl (any_of HT_.out (by kernel_rfl)) (fun _ _ _ h => h) (Or.inl ⟨by rfl, ?_⟩) ?_ ?_
         rotate_left
         ·intro w'
          go_simp
          with_reducible rfl
         rotate_left
         ·simp only [Act.put, List.setIfInBounds_toArray, List.set_cons_zero, List.set_cons_succ, i64_w, i32_w]
          rfl
         refine one_ (i := 11) (N := some 6) #[true, true, true, true, true, true, true, true, true, true, true, true, false] rfl rfl (one_of HT_.out (by kernel_rfl)) (by decide) (fun K hK => ?_)
         refine box_step ?hg (N := 6) ?hd (cs := #[.int .i64 0, .string (⟨#[]⟩ : ByteArray), .string (⟨#[]⟩ : ByteArray), .slice none 0 0]) (t := 25) ?hr ?_; (case hd => rfl); (case hg => rfl); (case hr => (go_simp; done))
         intro gb302 hg w20 hbox hb
         have HS0_ := (hb.cell (World.block_lt_of_cell? _ _ (hHeld.1))).trans (hHeld.1)
         have HS1_ := (hb.cell (World.block_lt_of_cell? _ _ (hHeld.2.1))).trans (hHeld.2.1)
         have HS2_ := (hb.cell (World.block_lt_of_cell? _ _ (hHeld.2.2.1))).trans (hHeld.2.2.1)
         have HS3_ := (hb.cell (World.block_lt_of_cell? _ _ (hHeld.2.2.2.1))).trans (hHeld.2.2.2.1)
         have HS4_ := (hb.cell (World.block_lt_of_cell? _ _ (hHeld.2.2.2.2.1))).trans (hHeld.2.2.2.2.1)
         have HS5_ := (hb.cell (World.block_lt_of_cell? _ _ (hHeld.2.2.2.2.2))).trans (hHeld.2.2.2.2.2)
         have n0_ := Aside0.mk (Kd.Q_below (by (with_reducible repeat (apply Kd.Q_drewN)); exact HO_4.out) hb)
         have n1_ := Aside0.mk (blk_below (g := gb293) (o := .cells #[.int .i64 0, .string (⟨#[]⟩ : ByteArray), .string (⟨#[]⟩ : ByteArray), .slice none 0 0] 25 (0, 0)) (by (with_reducible repeat (refine blk_drewN ?_ _)); exact BK293.out) hb)
         have n2_ := Aside0.mk (below_step (by repeat ((with_reducible first | exact HB.out | apply pw_below_drewN))) hb)
         have n3_ := Aside0.mk (hbox)
         have n4_ := Aside0.mk ((by rw [hg]; exact (below_size (by repeat ((with_reducible first | exact HB.out | apply pw_below_drewN)))) : w.heap.size ≤ gb302))
         have n5_ := Aside0.mk ((by rw [hg]; exact (below_size (by repeat ((with_reducible first | exact HB.out | apply pw_below_drewN)))) : w.heap.size ≤ gb302))
         have n6_ := Aside0.mk ((by rw [hg]; exact Nat.ne_of_lt (blk_lt (g := gb293) (o := .cells #[.int .i64 0, .string (⟨#[]⟩ : ByteArray), .string (⟨#[]⟩ : ByteArray), .slice none 0 0] 25 (0, 0)) (by (with_reducible repeat (refine blk_drewN ?_ _)); exact BK293.out)) : gb293 ≠ gb302))
         have n7_ := Aside0.mk ((by rw [hg]; exact Nat.ne_of_gt (blk_lt (g := gb293) (o := .cells #[.int .i64 0, .string (⟨#[]⟩ : ByteArray), .string (⟨#[]⟩ : ByteArray), .slice none 0 0] 25 (0, 0)) (by (with_reducible repeat (refine blk_drewN ?_ _)); exact BK293.out)) : gb302 ≠ gb293))
         clear HO_4
         clear BK293
         clear HB
         have HO_4 := n0_
         have BK293 := n1_
         have HB := n2_
         have BK302 := n3_
         have GW302 := n4_
         have GE302 := n5_
         have NB293_302 := n6_
         have NB302_293 := n7_
         clear n0_ n1_ n2_ n3_ n4_ n5_ n6_ n7_
         clear hb hbox hg
         refine hK.out _ _ ⟨HS0_, HS1_, HS2_, HS3_, HS4_, HS5_⟩ (fun hHeld => ?_)
         clear hK K
         refine norm_ (a' := ?_) ?_ ?_
         rotate_left
         ·show Act.put _ (some 6) _ = _
          simp only [Act.put, List.setIfInBounds_toArray, List.set_cons_zero, List.set_cons_succ, i64_w, i32_w]
          rfl
         exact norm_ (by (simp only [putAll, Act.put, List.setIfInBounds_toArray, List.set_cons_zero, List.set_cons_succ]; done)) (hCont (gb302) _ ⟨hHeld, (by (with_reducible repeat (apply Kd.Q_drew)); exact HO_4.out), (by (with_reducible repeat (refine blk_drew ?_)); exact BK293.out), (by (with_reducible repeat (refine blk_drew ?_)); exact BK302.out), GW302.out, GE302.out, NB293_302.out, NB302_293.out, (by repeat ((with_reducible exact HB.out)))⟩)
        ·skip
         refine box_step ?hg (N := 6) ?hd (cs := #[.int .i64 0, .string (⟨#[]⟩ : ByteArray), .string (⟨#[]⟩ : ByteArray), .slice none 0 0]) (t := 25) ?hr ?_; (case hd => rfl); (case hg => rfl); (case hr => (go_simp; done))
         intro gb302 hg w20 hbox hb
         have HS0_ := (hb.cell (World.block_lt_of_cell? _ _ (hHeld.1))).trans (hHeld.1)
         have HS1_ := (hb.cell (World.block_lt_of_cell? _ _ (hHeld.2.1))).trans (hHeld.2.1)
         have HS2_ := (hb.cell (World.block_lt_of_cell? _ _ (hHeld.2.2.1))).trans (hHeld.2.2.1)
         have HS3_ := (hb.cell (World.block_lt_of_cell? _ _ (hHeld.2.2.2.1))).trans (hHeld.2.2.2.1)
         have HS4_ := (hb.cell (World.block_lt_of_cell? _ _ (hHeld.2.2.2.2.1))).trans (hHeld.2.2.2.2.1)
         have HS5_ := (hb.cell (World.block_lt_of_cell? _ _ (hHeld.2.2.2.2.2))).trans (hHeld.2.2.2.2.2)
         have n0_ := Aside0.mk (Kd.Q_below (by (with_reducible repeat (apply Kd.Q_drew)); exact HO_4.out) hb)
         have n1_ := Aside0.mk (blk_below (g := gb293) (o := .cells #[.int .i64 0, .string (⟨#[]⟩ : ByteArray), .string (⟨#[]⟩ : ByteArray), .slice none 0 0] 25 (0, 0)) (by (with_reducible repeat (refine blk_drew ?_)); exact BK293.out) hb)
         have n2_ := Aside0.mk (below_step (by repeat ((with_reducible exact HB.out))) hb)
         have n3_ := Aside0.mk (hbox)
         have n4_ := Aside0.mk ((by rw [hg]; exact (below_size (by repeat ((with_reducible exact HB.out)))) : w.heap.size ≤ gb302))
         have n5_ := Aside0.mk ((by rw [hg]; exact (below_size (by repeat ((with_reducible exact HB.out)))) : w.heap.size ≤ gb302))
         have n6_ := Aside0.mk ((by rw [hg]; exact Nat.ne_of_lt (blk_lt (g := gb293) (o := .cells #[.int .i64 0, .string (⟨#[]⟩ : ByteArray), .string (⟨#[]⟩ : ByteArray), .slice none 0 0] 25 (0, 0)) (by (with_reducible repeat (refine blk_drew ?_)); exact BK293.out)) : gb293 ≠ gb302))
         have n7_ := Aside0.mk ((by rw [hg]; exact Nat.ne_of_gt (blk_lt (g := gb293) (o := .cells #[.int .i64 0, .string (⟨#[]⟩ : ByteArray), .string (⟨#[]⟩ : ByteArray), .slice none 0 0] 25 (0, 0)) (by (with_reducible repeat (refine blk_drew ?_)); exact BK293.out)) : gb302 ≠ gb293))
         clear HO_4
         clear BK293
         clear HB
         have HO_4 := n0_
         have BK293 := n1_
         have HB := n2_
         have BK302 := n3_
         have GW302 := n4_
         have GE302 := n5_
         have NB293_302 := n6_
         have NB302_293 := n7_
         clear n0_ n1_ n2_ n3_ n4_ n5_ n6_ n7_
         clear hb hbox hg
         refine hK.out _ _ ⟨HS0_, HS1_, HS2_, HS3_, HS4_, HS5_⟩ (fun hHeld => ?_)
         clear hK K
         refine norm_ (a' := ?_) ?_ ?_
         rotate_left
         ·show Act.put _ (some 6) _ = _
          simp only [Act.put, List.setIfInBounds_toArray, List.set_cons_zero, List.set_cons_succ, i64_w, i32_w]
          rfl
         refine one_ (i := 4) (N := some 36) #[true, true, true, true, true, false, true, true, true, true, false, true, false] rfl rfl (one_of HT_.out (by kernel_rfl)) (by decide) (fun K hK => ?_)
         refine goes_ Tryd.func53 (by kernel_rfl) rfl #[.string (⟨#[98, 111, 99, 117, 112, 113]⟩ : ByteArray), .string ((rd_T91 t294 0).f2)] (by rfl) rfl rfl (by (try simp only [List.map_toArray, List.map_cons, List.map_nil]); rfl) ?_
         with_reducible refine (strings_Index.calls (⟨#[98, 111, 99, 117, 112, 113]⟩ : ByteArray) ((rd_T91 t294 0).f2) t300 _ A14.out).mono ?_
         rintro e w' ⟨rfl, ⟨nd, rfl⟩⟩
         refine ⟨_, rfl, ?_⟩
         refine hK.out _ _ ⟨hHeld.1, hHeld.2.1, hHeld.2.2.1, hHeld.2.2.2.1, hHeld.2.2.2.2.1, hHeld.2.2.2.2.2⟩ (fun hHeld => ?_)
         clear hK K
         refine norm_ (a' := ?_) ?_ ?_
         rotate_left
         ·show Act.put _ (some 36) _ = _
          simp only [Act.put, List.setIfInBounds_toArray, List.set_cons_zero, List.set_cons_succ, i64_w, i32_w]
          rfl
         refine pure_ (i := 5) (N := some 37) (v := ?_) (a' := ?_) #[true, true, true, true, true, true, true, true, true, true, false, true, false] rfl rfl (any_of HT_.out (by kernel_rfl)) (fun _ _ _ h => h) (Or.inl ⟨by rfl, ?_⟩) ?_ ?_
         rotate_left
         ·intro w'
          go_simp
          with_reducible rfl
         rotate_left
         ·simp only [Act.put, List.setIfInBounds_toArray, List.set_cons_zero, List.set_cons_succ, i64_w, i32_w]
          rfl
         refine pure_ (i := 10) (N := some 42) (v := ?_) (a' := ?_) #[true, true, true, true, true, true, true, true, true, true, true, true, false] rfl rfl (any_of HT_.out (by kernel_rfl)) (fun _ _ _ h => h) (Or.inl ⟨by rfl, ?_⟩) ?_ ?_
         rotate_left
         ·intro w'
          go_simp
          with_reducible rfl
         rotate_left
         ·simp only [Act.put, List.setIfInBounds_toArray, List.set_cons_zero, List.set_cons_succ, i64_w, i32_w]
          rfl
         exact norm_ (by (simp only [putAll, Act.put, List.setIfInBounds_toArray, List.set_cons_zero, List.set_cons_succ]; done)) (hCont (gb302) _ ⟨hHeld, (by (with_reducible repeat (apply Kd.Q_drewN)); exact HO_4.out), (by (with_reducible repeat (refine blk_drewN ?_ _)); exact BK293.out), (by (with_reducible repeat (refine blk_drewN ?_ _)); exact BK302.out), GW302.out, GE302.out, NB293_302.out, NB302_293.out, (by repeat ((with_reducible first | exact HB.out | apply pw_below_drewN)))⟩)
       rintro gb302 w21 ⟨hS_, h0_, h1_, h2_, h3_, h4_, h5_, h6_, h7_⟩
       have n0_ : Aside0 (Kd.Q k91 91 w21 w.heap.size (fun _ => True) (.slice (some ad299) t294.length co19) t294) := ⟨h0_⟩
       have n1_ : Aside0 (w21.heap[gb293]? = some (.cells #[.int .i64 0, .string (⟨#[]⟩ : ByteArray), .string (⟨#[]⟩ : ByteArray), .slice none 0 0] 25 (0, 0))) := ⟨h1_⟩
       have n2_ : Aside0 (w21.heap[gb302]? = some (.cells #[.int .i64 0, .string (⟨#[]⟩ : ByteArray), .string (⟨#[]⟩ : ByteArray), .slice none 0 0] 25 (0, 0))) := ⟨h2_⟩
       have n3_ : Aside0 (w.heap.size ≤ gb302) := ⟨h3_⟩
       have n4_ : Aside0 (w.heap.size ≤ gb302) := ⟨h4_⟩
       have n5_ : Aside0 (gb293 ≠ gb302) := ⟨h5_⟩
       have n6_ : Aside0 (gb302 ≠ gb293) := ⟨h6_⟩
       have n7_ : Aside0 (Below w.heap.size w w21) := ⟨h7_⟩
       clear HO_4
       clear BK293
       clear HB
       clear h0_ h1_ h2_ h3_ h4_ h5_ h6_ h7_
       have HO_4 := n0_
       have BK293 := n1_
       have BK302 := n2_
       have GW302 := n3_
       have GE302 := n4_
       have NB293_302 := n5_
       have NB302_293 := n6_
       have HB := n7_
       clear n0_ n1_ n2_ n3_ n4_ n5_ n6_ n7_
       have hHeld : w21.cell? ad299 = some (.int .i64 ((rd_T91 t294 0).f0)) ∧ w21.cell? ⟨ad299.block, ad299.off + 1, none⟩ = some (.int .i64 ((rd_T91 t294 0).f1)) ∧ w21.cell? ⟨ad299.block, ad299.off + 2, none⟩ = some (.string ((rd_T91 t294 0).f2)) ∧ w21.cell? ⟨ad299.block, ad299.off + 3, none⟩ = some (.int .i64 ((rd_T91 t294 1).f0)) ∧ w21.cell? ⟨ad299.block, ad299.off + 3 + 1, none⟩ = some (.int .i64 ((rd_T91 t294 1).f1)) ∧ w21.cell? ⟨ad299.block, ad299.off + 3 + 2, none⟩ = some (.string ((rd_T91 t294 1).f2)) := hS_
       refine norm_ (a' := ?_) ?_ ?_
       rotate_left
       ·simp only [putAll, Act.put, List.setIfInBounds_toArray, List.set_cons_zero, List.set_cons_succ]
        rfl
       refine one_ (i := 12) (N := none) #[true, true, true, true, true, true, true, true, true, true, true, true, true] rfl rfl (one_of HT_.out (by kernel_rfl)) (by decide) (fun K hK => ?_)
       have hs22 : w21.cell? ⟨gb302, 0, none⟩ = some (.int .i64 0) := (blk_cell BK302.out 0).trans rfl
       have hfs22 := blk_frozen BK302.out 0
       have hns22_0 := NB293_302.out
       have hms22_0 := NB302_293.out
       have hs23 : w21.cell? ⟨gb302, 1, none⟩ = some (.string (⟨#[]⟩ : ByteArray)) := (blk_cell BK302.out 1).trans rfl
       have hfs23 := blk_frozen BK302.out 1
       have hns23_0 := NB293_302.out
       have hms23_0 := NB302_293.out
       have hs24 : w21.cell? ⟨gb302, 2, none⟩ = some (.string (⟨#[]⟩ : ByteArray)) := (blk_cell BK302.out 2).trans rfl
       have hfs24 := blk_frozen BK302.out 2
       have hns24_0 := NB293_302.out
       have hms24_0 := NB302_293.out
       have hs25 : w21.cell? ⟨gb302, 3, none⟩ = some (.slice none 0 0) := (blk_cell BK302.out 3).trans rfl
       have hfs25 := blk_frozen BK302.out 3
       have hns25_0 := NB293_302.out
       have hms25_0 := NB302_293.out
       refine skip_ (w1 := ?_) (by rfl) rfl ?_ ?_
       rotate_left
       ·go_simp
        rfl
       refine hK.out _ _ ⟨((cell_far (p := ⟨gb302, _, none⟩) (by exact Kd.own_blk (Kd.Q_ne HO_4.out BK302.out (by decide))) _).trans (((cell_far (p := ⟨gb302, _, none⟩) (by exact Kd.own_blk (Kd.Q_ne HO_4.out BK302.out (by decide))) _).trans (((cell_far (p := ⟨gb302, _, none⟩) (by exact Kd.own_blk (Kd.Q_ne HO_4.out BK302.out (by decide))) _).trans (((cell_far (p := ⟨gb302, _, none⟩) (by exact Kd.own_blk (Kd.Q_ne HO_4.out BK302.out (by decide))) _).trans (hHeld.1)))))))), ((cell_far (p := ⟨gb302, _, none⟩) (by (dsimp only; exact Kd.own_blk (Kd.Q_ne HO_4.out BK302.out (by decide)))) _).trans (((cell_far (p := ⟨gb302, _, none⟩) (by (dsimp only; exact Kd.own_blk (Kd.Q_ne HO_4.out BK302.out (by decide)))) _).trans (((cell_far (p := ⟨gb302, _, none⟩) (by (dsimp only; exact Kd.own_blk (Kd.Q_ne HO_4.out BK302.out (by decide)))) _).trans (((cell_far (p := ⟨gb302, _, none⟩) (by (dsimp only; exact Kd.own_blk (Kd.Q_ne HO_4.out BK302.out (by decide)))) _).trans (hHeld.2.1)))))))), ((cell_far (p := ⟨gb302, _, none⟩) (by (dsimp only; exact Kd.own_blk (Kd.Q_ne HO_4.out BK302.out (by decide)))) _).trans (((cell_far (p := ⟨gb302, _, none⟩) (by (dsimp only; exact Kd.own_blk (Kd.Q_ne HO_4.out BK302.out (by decide)))) _).trans (((cell_far (p := ⟨gb302, _, none⟩) (by (dsimp only; exact Kd.own_blk (Kd.Q_ne HO_4.out BK302.out (by decide)))) _).trans (((cell_far (p := ⟨gb302, _, none⟩) (by (dsimp only; exact Kd.own_blk (Kd.Q_ne HO_4.out BK302.out (by decide)))) _).trans (hHeld.2.2.1)))))))), ((cell_far (p := ⟨gb302, _, none⟩) (by (dsimp only; exact Kd.own_blk (Kd.Q_ne HO_4.out BK302.out (by decide)))) _).trans (((cell_far (p := ⟨gb302, _, none⟩) (by (dsimp only; exact Kd.own_blk (Kd.Q_ne HO_4.out BK302.out (by decide)))) _).trans (((cell_far (p := ⟨gb302, _, none⟩) (by (dsimp only; exact Kd.own_blk (Kd.Q_ne HO_4.out BK302.out (by decide)))) _).trans (((cell_far (p := ⟨gb302, _, none⟩) (by (dsimp only; exact Kd.own_blk (Kd.Q_ne HO_4.out BK302.out (by decide)))) _).trans (hHeld.2.2.2.1)))))))), ((cell_far (p := ⟨gb302, _, none⟩) (by (dsimp only; exact Kd.own_blk (Kd.Q_ne HO_4.out BK302.out (by decide)))) _).trans (((cell_far (p := ⟨gb302, _, none⟩) (by (dsimp only; exact Kd.own_blk (Kd.Q_ne HO_4.out BK302.out (by decide)))) _).trans (((cell_far (p := ⟨gb302, _, none⟩) (by (dsimp only; exact Kd.own_blk (Kd.Q_ne HO_4.out BK302.out (by decide)))) _).trans (((cell_far (p := ⟨gb302, _, none⟩) (by (dsimp only; exact Kd.own_blk (Kd.Q_ne HO_4.out BK302.out (by decide)))) _).trans (hHeld.2.2.2.2.1)))))))), ((cell_far (p := ⟨gb302, _, none⟩) (by (dsimp only; exact Kd.own_blk (Kd.Q_ne HO_4.out BK302.out (by decide)))) _).trans (((cell_far (p := ⟨gb302, _, none⟩) (by (dsimp only; exact Kd.own_blk (Kd.Q_ne HO_4.out BK302.out (by decide)))) _).trans (((cell_far (p := ⟨gb302, _, none⟩) (by (dsimp only; exact Kd.own_blk (Kd.Q_ne HO_4.out BK302.out (by decide)))) _).trans (((cell_far (p := ⟨gb302, _, none⟩) (by (dsimp only; exact Kd.own_blk (Kd.Q_ne HO_4.out BK302.out (by decide)))) _).trans (hHeld.2.2.2.2.2))))))))⟩ (fun hHeld => ?_)
       clear hK K
       refine done_ (done_of HT_.out (by kernel_rfl)) ?_
       have n0_ : Aside0 (Kd.Q k91 91 ((((w21.setCell ⟨gb302, 0, none⟩ (.int .i64 (wrap64 (t300 + 1)))).setCell ⟨gb302, 1, none⟩ (.string ((rd_T91 t294 1).f2))).setCell ⟨gb302, 2, none⟩ (.string (⟨#[]⟩ : ByteArray))).setCell ⟨gb302, 3, none⟩ (.slice none 0 0)) w.heap.size (fun _ => True) (.slice (some ad299) t294.length co19) t294) := ⟨by (with_reducible repeat (apply Kd.Q_drew)); exact Kd.Q_mono (Kd.Q_far (p := ⟨gb302, 3, none⟩) (Kd.Q_far (p := ⟨gb302, 2, none⟩) (Kd.Q_far (p := ⟨gb302, 1, none⟩) (Kd.Q_far (p := ⟨gb302, 0, none⟩) (Kd.Q_types HO_4.out BK302.out (by decide)) (fun _ hk => hk.2) (.int .i64 (wrap64 (t300 + 1)))) (fun _ hk => hk.2) (.string ((rd_T91 t294 1).f2))) (fun _ hk => hk.2) (.string (⟨#[]⟩ : ByteArray))) (fun _ hk => hk.2) (.slice none 0 0)) (fun _ hk => trivial)⟩
       have n1_ : Aside0 (((((w21.setCell ⟨gb302, 0, none⟩ (.int .i64 (wrap64 (t300 + 1)))).setCell ⟨gb302, 1, none⟩ (.string ((rd_T91 t294 1).f2))).setCell ⟨gb302, 2, none⟩ (.string (⟨#[]⟩ : ByteArray))).setCell ⟨gb302, 3, none⟩ (.slice none 0 0)).heap[gb293]? = some (.cells #[.int .i64 0, .string (⟨#[]⟩ : ByteArray), .string (⟨#[]⟩ : ByteArray), .slice none 0 0] 25 (0, 0))) := ⟨by (with_reducible repeat (refine blk_drew ?_)); refine blk_far ?_ NB293_302.out _; (with_reducible repeat (refine blk_drew ?_)); refine blk_far ?_ NB293_302.out _; (with_reducible repeat (refine blk_drew ?_)); refine blk_far ?_ NB293_302.out _; (with_reducible repeat (refine blk_drew ?_)); refine blk_far ?_ NB293_302.out _; (with_reducible repeat (refine blk_drew ?_)); exact BK293.out⟩
       have n2_ : Aside0 (((((w21.setCell ⟨gb302, 0, none⟩ (.int .i64 (wrap64 (t300 + 1)))).setCell ⟨gb302, 1, none⟩ (.string ((rd_T91 t294 1).f2))).setCell ⟨gb302, 2, none⟩ (.string (⟨#[]⟩ : ByteArray))).setCell ⟨gb302, 3, none⟩ (.slice none 0 0)).heap[gb302]? = some (.cells #[.int .i64 (wrap64 (t300 + 1)), .string ((rd_T91 t294 1).f2), .string (⟨#[]⟩ : ByteArray), .slice none 0 0] 25 (0, 0))) := ⟨by (with_reducible repeat (refine blk_drew ?_)); refine blk_put (cs := #[.int .i64 (wrap64 (t300 + 1)), .string ((rd_T91 t294 1).f2), .string (⟨#[]⟩ : ByteArray), .slice none 0 0]) ?_ 3 _ rfl; (with_reducible repeat (refine blk_drew ?_)); refine blk_put (cs := #[.int .i64 (wrap64 (t300 + 1)), .string ((rd_T91 t294 1).f2), .string (⟨#[]⟩ : ByteArray), .slice none 0 0]) ?_ 2 _ rfl; (with_reducible repeat (refine blk_drew ?_)); refine blk_put (cs := #[.int .i64 (wrap64 (t300 + 1)), .string (⟨#[]⟩ : ByteArray), .string (⟨#[]⟩ : ByteArray), .slice none 0 0]) ?_ 1 _ rfl; (with_reducible repeat (refine blk_drew ?_)); refine blk_put (cs := #[.int .i64 0, .string (⟨#[]⟩ : ByteArray), .string (⟨#[]⟩ : ByteArray), .slice none 0 0]) ?_ 0 _ rfl; (with_reducible repeat (refine blk_drew ?_)); exact BK302.out⟩
       have n3_ : Aside0 (Below w.heap.size w ((((w21.setCell ⟨gb302, 0, none⟩ (.int .i64 (wrap64 (t300 + 1)))).setCell ⟨gb302, 1, none⟩ (.string ((rd_T91 t294 1).f2))).setCell ⟨gb302, 2, none⟩ (.string (⟨#[]⟩ : ByteArray))).setCell ⟨gb302, 3, none⟩ (.slice none 0 0))) := ⟨by repeat ((with_reducible first | exact HB.out | refine below_set ?_ GE302.out))⟩
       (try clear HO_4)
       (try clear BK293)
       (try clear BK302)
       (try clear HB)
       generalize ((((w21.setCell ⟨gb302, 0, none⟩ (.int .i64 (wrap64 (t300 + 1)))).setCell ⟨gb302, 1, none⟩ (.string ((rd_T91 t294 1).f2))).setCell ⟨gb302, 2, none⟩ (.string (⟨#[]⟩ : ByteArray))).setCell ⟨gb302, 3, none⟩ (.slice none 0 0)) = w26 at n0_ n1_ n2_ n3_ ⊢
       have HO_4 := n0_
       have BK293 := n1_
       have BK302 := n2_
       have HB := n3_
       clear n0_ n1_ n2_ n3_
       have q27 : (2 : Int) ≤ ((t294.length : Int) : Int) := of_decide_eq_true (by (with_reducible assumption))
       obtain ⟨i027, hi027, _, hsz27, _⟩ := info_parts info91
       have hcut27 := cut_from (P := Tryd.prog) 85 91 .i64 Tryd.underlying85 hi027 3 hsz27 (some ad299) t294.length co19 2 (by omega) q27
       have hr27 := Kd.Q_drop (k := (2 : Int).toNat) HO_4.out (by omega)
       obtain ⟨A27, hA27⟩ : ∃ A1, A1 = (if co19 = (2 : Int).toNat then (some ad299) else ((some ad299) : Option Addr).map (·.add ((2 : Int).toNat * 3))) := ⟨_, rfl⟩
       obtain ⟨c27, hc27⟩ : ∃ c1, c1 = co19 - (2 : Int).toNat := ⟨_, rfl⟩
       have hy27 : y303.length = t294.length - (2 : Int).toNat := (by rw [Ny303.out, List.length_drop])
       rw [← Ny303.out] at hr27
       rw [← hy27, ← hA27, ← hc27] at hcut27
       replace hr27 : Kd.Q k91 91 w26 w.heap.size (fun _ => True) (.slice A27 y303.length c27) y303 := (by rw [hA27, hc27, hy27]; exact hr27)
       have HE27 : Aside0 ((Value.slice A27 y303.length c27).ownBlock = (.slice (some ad299) t294.length co19 : Value).ownBlock) := ⟨by rw [hA27]; split <;> (cases ((some ad299) : Option Addr) <;> rfl)⟩
       clear hy27 hi027 hsz27 HO_4 hA27 hc27
       have HO305 := Aside0.mk hr27
       clear hr27
       replace q27 := eq_true q27
       go_upto_region 6 with (fail)
       go_cut [52] (fun v52 wc => ∃ (kq : Nat) (x52_16 : Bool), v52 = .bool x52_16 ∧ Aside0 (layout_Parse.j1 kq a0 y303 x52_16 (wrap64 (t300 + 1)) ((rd_T91 t294 1).f2) (⟨#[]⟩ : ByteArray) = some (r1, r2, r3, r4, r5)) ∧ Aside0 (kq ≤ kj2) ∧ Aside0 (Kd.Q k91 91 wc w.heap.size (fun _ => True) (.slice A27 y303.length c27) y303) ∧ Aside0 (wc.heap[gb293]? = some (.cells #[.int .i64 0, .string (⟨#[]⟩ : ByteArray), .string (⟨#[]⟩ : ByteArray), (.slice none 0 0)] 25 (0, 0))) ∧ Aside0 (wc.heap[gb302]? = some (.cells #[.int .i64 (wrap64 (t300 + 1)), .string ((rd_T91 t294 1).f2), .string (⟨#[]⟩ : ByteArray), (.slice none 0 0)] 25 (0, 0))) ∧ Aside0 (Below w.heap.size w wc))
       case first =>
        have H := HC17.out
        clear HC17
        by_cases c28 : (wrap64 (t300 + 1)) = 1
        ·rw [if_pos c28] at H
         have c28b0 : ((wrap64 (t300 + 1)) == 1) = true := beq_iff_eq.mpr c28
         have c28b1 : ((wrap64 (t300 + 1)) != 1) = false := bne_eq_false_iff_eq.mpr c28
         clear c28
         (skip)
         have H' := Aside0.mk H
         clear H
         have hnb29 := NB302_293.out
         have hnc29 := NB293_302.out
         have hcz30_0 : w26.cell? ⟨gb302, 0, none⟩ = some (.int .i64 (wrap64 (t300 + 1))) := (blk_cell BK302.out 0).trans rfl
         have hcz30_1 : w26.cell? ⟨gb302, 1, none⟩ = some (.string ((rd_T91 t294 1).f2)) := (blk_cell BK302.out 1).trans rfl
         have hcz30_2 : w26.cell? ⟨gb302, 2, none⟩ = some (.string (⟨#[]⟩ : ByteArray)) := (blk_cell BK302.out 2).trans rfl
         have hcz30_3 : w26.cell? ⟨gb302, 3, none⟩ = some (.slice none 0 0) := (blk_cell BK302.out 3).trans rfl
         have hfz30_0 := blk_frozen BK302.out 0
         have hfz30_1 := blk_frozen BK302.out 1
         have hfz30_2 := blk_frozen BK302.out 2
         have hfz30_3 := blk_frozen BK302.out 3
         go_wp2
         go_meet
         case rel => exact ⟨_, (false), (by rfl), H', ⟨by have := HJ2.out; omega⟩, ⟨by (with_reducible repeat (apply Kd.Q_drew)); exact HO305.out⟩, ⟨by (with_reducible repeat (refine blk_drew ?_)); exact BK293.out⟩, ⟨by (with_reducible repeat (refine blk_drew ?_)); exact BK302.out⟩, ⟨by repeat ((with_reducible exact HB.out))⟩⟩
        ·rw [if_neg c28] at H
         have c28b0 : ((wrap64 (t300 + 1)) == 1) = false := beq_eq_false_iff_ne.mpr c28
         have c28b1 : ((wrap64 (t300 + 1)) != 1) = true := bne_iff_ne.mpr c28
         (skip)
         have H' := Aside0.mk H
         clear H
         have hnb31 := NB302_293.out
         have hnc31 := NB293_302.out
         have hcz32_0 : w26.cell? ⟨gb302, 0, none⟩ = some (.int .i64 (wrap64 (t300 + 1))) := (blk_cell BK302.out 0).trans rfl
         have hcz32_1 : w26.cell? ⟨gb302, 1, none⟩ = some (.string ((rd_T91 t294 1).f2)) := (blk_cell BK302.out 1).trans rfl
         have hcz32_2 : w26.cell? ⟨gb302, 2, none⟩ = some (.string (⟨#[]⟩ : ByteArray)) := (blk_cell BK302.out 2).trans rfl
         have hcz32_3 : w26.cell? ⟨gb302, 3, none⟩ = some (.slice none 0 0) := (blk_cell BK302.out 3).trans rfl
         have hfz32_0 := blk_frozen BK302.out 0
         have hfz32_1 := blk_frozen BK302.out 1
         have hfz32_2 := blk_frozen BK302.out 2
         have hfz32_3 := blk_frozen BK302.out 3
         go_wp2
         go_meet
         case rel => exact ⟨_, (decide ((y303.length : Int) > 0)), (by (simp; done)), H', ⟨by have := HJ2.out; omega⟩, ⟨by (with_reducible repeat (apply Kd.Q_drew)); exact HO305.out⟩, ⟨by (with_reducible repeat (refine blk_drew ?_)); exact BK293.out⟩, ⟨by (with_reducible repeat (refine blk_drew ?_)); exact BK302.out⟩, ⟨by repeat ((with_reducible exact HB.out))⟩⟩
       case rest =>
        clear HC17
        try clear c1
        try clear c2
        try clear p2
        try clear q2
        try clear hx2
        try clear qi2
        try clear c3
        try clear p3
        try clear q3
        try clear hx3
        try clear qi3
        try clear c5
        try clear c6
        try clear c6b0
        try clear c6b1
        try clear p6
        try clear c7
        try clear c7b0
        try clear c7b1
        try clear c9
        try clear c9b0
        try clear c9b1
        try clear c11
        try clear c13
        try clear c13b0
        try clear c13b1
        try clear c15
        try clear c15b0
        try clear c15b1
        try clear c16
        try clear c16b0
        try clear c16b1
        try clear c23
        try clear c27
        try clear q27
        try clear c28
        try clear c28b0
        try clear c28b1
        try clear c29
        try clear p29
        try clear q29
        try clear hx29
        try clear qi29
        try clear p30
        try clear q30
        try clear hx30
        try clear qi30
        try clear c31
        try clear hcz12_0
        try clear hcz12_1
        try clear hcz12_2
        try clear hcz12_3
        try clear hcz30_0
        try clear hcz30_1
        try clear hcz30_2
        try clear hcz30_3
        try clear hcz32_0
        try clear hcz32_1
        try clear hcz32_2
        try clear hcz32_3
        try clear hfz12_0
        try clear hfz12_1
        try clear hfz12_2
        try clear hfz12_3
        try clear hfz30_0
        try clear hfz30_1
        try clear hfz30_2
        try clear hfz30_3
        try clear hfz32_0
        try clear hfz32_1
        try clear hfz32_2
        try clear hfz32_3
        try clear hx298_0
        try clear hx298_1
        try clear hx298_2
        try clear hx299_0
        try clear hx299_1
        try clear hx299_2
        try clear hx301_0
        try clear hx301_1
        try clear hx301_2
        try clear p2
        try clear p298
        try clear p299
        try clear p301
        try clear q2
        try clear q27
        try clear q298
        try clear q299
        try clear q301
        obtain ⟨kq, x52_16, rfl, HA, HJ16, HO_4, BK293, BK302, HB⟩ := hcut
        cases kq with
        | zero => exact absurd HA.out (by simp [layout_Parse.j1])
        | succ kj16 =>
         have H := HA.out
         clear HA
         simp only [layout_Parse.j1] at H
         have HC33 := Aside0.mk H
         clear H
         go_upto_if 52 with (fail)
         go_cut [4] (fun v4 wc => ∃ (kq : Nat) (x4_32 : List (S91)) (x303002_32 : ByteArray), Aside0 (layout_Parse.j2 kq a0 x4_32 (wrap64 (t300 + 1)) ((rd_T91 t294 1).f2) x303002_32 = some (r1, r2, r3, r4, r5)) ∧ Aside0 (kq ≤ kj16) ∧ Aside0 (Kd.Q k91 91 wc w.heap.size (fun _ => True) v4 x4_32) ∧ Aside0 (wc.heap[gb293]? = some (.cells #[.int .i64 0, .string (⟨#[]⟩ : ByteArray), .string (⟨#[]⟩ : ByteArray), (.slice none 0 0)] 25 (0, 0))) ∧ Aside0 (wc.heap[gb302]? = some (.cells #[.int .i64 (wrap64 (t300 + 1)), .string ((rd_T91 t294 1).f2), .string x303002_32, (.slice none 0 0)] 25 (0, 0))) ∧ Aside0 (Below w.heap.size w wc))
         case first =>
          have H := HC33.out
          clear HC33
          by_cases c34 : x52_16 = true
          ·subst c34
           have H1 : (if 0 < (y303.length : Int) then (if 1 ≤ (y303.length : Int) then (layout_Parse.j2 kj16 a0 (y303.drop (1 : Int).toNat) (wrap64 (t300 + 1)) ((rd_T91 t294 1).f2) ((rd_T91 y303 0).f2)) else (none)) else (none)) = some (r1, r2, r3, r4, r5) := by rw [if_pos rfl] at H; exact H
           clear H
           have H := H1
           clear H1
           by_cases c35 : 0 < (y303.length : Int)
           ·rw [if_pos c35] at H
            have c35b0 : decide (0 < (y303.length : Int)) = true := decide_eq_true c35
            have c35b1 : decide (0 < y303.length) = true := decide_eq_true (by omega)
            clear c35
            (skip)
            by_cases c36 : 1 ≤ (y303.length : Int)
            ·rw [if_pos c36] at H
             have c36b0 := eq_true c36
             have c36b1 : decide (1 ≤ (y303.length : Int)) = true := decide_eq_true c36
             clear c36
             obtain ⟨y307, hy307⟩ : ∃ y_ : List (S91), y_ = (y303.drop (1 : Int).toNat) := ⟨_, rfl⟩
             replace H : (layout_Parse.j2 kj16 a0 y307 (wrap64 (t300 + 1)) ((rd_T91 t294 1).f2) ((rd_T91 y303 0).f2)) = some (r1, r2, r3, r4, r5) := by (rw [hy307]; with_reducible exact H)
             have Ny307 := Aside0.mk hy307
             clear hy307
             have H' := Aside0.mk H
             clear H
             have p306 : 0 ≤ (0 : Int) := (by omega)
             have q306 : 0 < (y303.length : Int) := of_decide_eq_true (by (with_reducible assumption))
             obtain ⟨ad306, e306, hx306_0, hx306_1, hx306_2⟩ := at_T91 (Kd.Q_reads' HO_4.out).2.2 0 p306 q306
             cases e306
             have qi306 : (0 < y303.length) = True := eq_true (by omega)
             (try rw [show ((0 : Int)).toNat = 0 from rfl] at hx306_0)
             (try rw [show 0 * 3 = 0 from rfl] at hx306_0)
             (try rw [Addr.add_zero'] at hx306_0)
             (try rw [show ((0 : Int)).toNat = 0 from rfl] at hx306_1)
             (try rw [show 0 * 3 = 0 from rfl] at hx306_1)
             (try rw [Addr.add_zero'] at hx306_1)
             (try rw [show ((0 : Int)).toNat = 0 from rfl] at hx306_2)
             (try rw [show 0 * 3 = 0 from rfl] at hx306_2)
             (try rw [Addr.add_zero'] at hx306_2)
             replace p306 := eq_true p306
             replace q306 := eq_true q306
             have hnb37 := NB302_293.out
             have hnc37 := NB293_302.out
             have hcz38_0 : wc.cell? ⟨gb302, 0, none⟩ = some (.int .i64 (wrap64 (t300 + 1))) := (blk_cell BK302.out 0).trans rfl
             have hcz38_1 : wc.cell? ⟨gb302, 1, none⟩ = some (.string ((rd_T91 t294 1).f2)) := (blk_cell BK302.out 1).trans rfl
             have hcz38_2 : wc.cell? ⟨gb302, 2, none⟩ = some (.string (⟨#[]⟩ : ByteArray)) := (blk_cell BK302.out 2).trans rfl
             have hcz38_3 : wc.cell? ⟨gb302, 3, none⟩ = some (.slice none 0 0) := (blk_cell BK302.out 3).trans rfl
             have hfz38_0 := blk_frozen BK302.out 0
             have hfz38_1 := blk_frozen BK302.out 1
             have hfz38_2 := blk_frozen BK302.out 2
             have hfz38_3 := blk_frozen BK302.out 3
             go_wp2_with (((with_reducible refine gate_store (t := 9) (p := 57) rfl ?_); refine store_event (t := 9) (p := 57) (v := ?vo_w39) (w1 := (wc.setCell ⟨gb302, 2, none⟩ (.string ((rd_T91 y303 0).f2)))) ?hg ?ho ?hn ?hr ?_; (case ho => rfl); (case hg => rfl); (case hn => rfl); (case hr => (go_simp; done)); intro w39 hw; have n0_ : Aside0 (Kd.Q k91 91 w39 w.heap.size (fun _ => True) (.slice (some ad306) y303.length c27) y303) := ⟨(by rw [hw]; exact (by (with_reducible repeat (apply Kd.Q_drew)); exact Kd.Q_mono (Kd.Q_far (p := ⟨gb302, 2, none⟩) (Kd.Q_types HO_4.out BK302.out (by decide)) (fun _ hk => hk.2) (.string ((rd_T91 y303 0).f2))) (fun _ hk => trivial)))⟩; have n1_ : Aside0 (w39.heap[gb293]? = some (.cells #[.int .i64 0, .string (⟨#[]⟩ : ByteArray), .string (⟨#[]⟩ : ByteArray), .slice none 0 0] 25 (0, 0))) := ⟨(by rw [hw]; exact (by (with_reducible repeat (refine blk_drew ?_)); refine blk_far ?_ NB293_302.out _; (with_reducible repeat (refine blk_drew ?_)); exact BK293.out))⟩; have n2_ : Aside0 (w39.heap[gb302]? = some (.cells #[.int .i64 (wrap64 (t300 + 1)), .string ((rd_T91 t294 1).f2), .string ((rd_T91 y303 0).f2), .slice none 0 0] 25 (0, 0))) := ⟨(by rw [hw]; exact (by (with_reducible repeat (refine blk_drew ?_)); refine blk_put (cs := #[.int .i64 (wrap64 (t300 + 1)), .string ((rd_T91 t294 1).f2), .string (⟨#[]⟩ : ByteArray), .slice none 0 0]) ?_ 2 _ rfl; (with_reducible repeat (refine blk_drew ?_)); exact BK302.out))⟩; have n3_ : Aside0 (Below w.heap.size w w39) := ⟨(by rw [hw]; exact (by repeat ((with_reducible first | exact HB.out | refine below_set ?_ GE302.out))))⟩; clear hw; clear HO_4; clear BK293; clear BK302; clear HB; have HO_4 := n0_; have BK293 := n1_; have BK302 := n2_; have HB := n3_; clear n0_ n1_ n2_ n3_; have q40 : (1 : Int) ≤ ((y303.length : Int) : Int) := of_decide_eq_true (by (with_reducible assumption)); obtain ⟨i040, hi040, _, hsz40, _⟩ := info_parts info91; have hcut40 := cut_from (P := Tryd.prog) 85 91 .i64 Tryd.underlying85 hi040 3 hsz40 (some ad306) y303.length c27 1 (by omega) q40; have hr40 := Kd.Q_drop (k := (1 : Int).toNat) HO_4.out (by omega); obtain ⟨A40, hA40⟩ : ∃ A1, A1 = (if c27 = (1 : Int).toNat then (some ad306) else ((some ad306) : Option Addr).map (·.add ((1 : Int).toNat * 3))) := ⟨_, rfl⟩; obtain ⟨c40, hc40⟩ : ∃ c1, c1 = c27 - (1 : Int).toNat := ⟨_, rfl⟩; have hy40 : y307.length = y303.length - (1 : Int).toNat := (by rw [Ny307.out, List.length_drop]); rw [← Ny307.out] at hr40; rw [← hy40, ← hA40, ← hc40] at hcut40; replace hr40 : Kd.Q k91 91 w39 w.heap.size (fun _ => True) (.slice A40 y307.length c40) y307 := (by rw [hA40, hc40, hy40]; exact hr40); have HE40 : Aside0 ((Value.slice A40 y307.length c40).ownBlock = (.slice (some ad306) y303.length c27 : Value).ownBlock) := ⟨by rw [hA40]; split <;> (cases ((some ad306) : Option Addr) <;> rfl)⟩; clear hy40 hi040 hsz40 HO_4 hA40 hc40; have HO309 := Aside0.mk hr40; clear hr40; replace q40 := eq_true q40))
             go_meet
             case rel => exact ⟨_, (y307), ((rd_T91 y303 0).f2), H', ⟨by have := HJ2.out; have := HJ16.out; omega⟩, ⟨by (with_reducible repeat (apply Kd.Q_drew)); exact HO309.out⟩, ⟨by (with_reducible repeat (refine blk_drew ?_)); exact BK293.out⟩, ⟨by (with_reducible repeat (refine blk_drew ?_)); exact BK302.out⟩, ⟨by repeat ((with_reducible exact HB.out))⟩⟩
            ·rw [if_neg c36] at H
             exact absurd H (by simp)
           ·rw [if_neg c35] at H
            exact absurd H (by simp)
          ·replace c34 := Bool.eq_false_iff.mpr c34
           subst c34
           have H1 : (layout_Parse.j2 kj16 a0 y303 (wrap64 (t300 + 1)) ((rd_T91 t294 1).f2) (⟨#[]⟩ : ByteArray)) = some (r1, r2, r3, r4, r5) := by rw [if_neg (show ¬ (false = true) by decide)] at H; exact H
           clear H
           have H := H1
           clear H1
           have H' := Aside0.mk H
           clear H
           go_wp2
           go_meet
           case rel => exact ⟨_, (y303), ((⟨#[]⟩ : ByteArray)), H', ⟨by have := HJ2.out; have := HJ16.out; omega⟩, ⟨by (with_reducible repeat (apply Kd.Q_drew)); exact HO_4.out⟩, ⟨by (with_reducible repeat (refine blk_drew ?_)); exact BK293.out⟩, ⟨by (with_reducible repeat (refine blk_drew ?_)); exact BK302.out⟩, ⟨by repeat ((with_reducible exact HB.out))⟩⟩
         case rest =>
          clear HC33
          try clear c1
          try clear c2
          try clear p2
          try clear q2
          try clear hx2
          try clear qi2
          try clear c3
          try clear p3
          try clear q3
          try clear hx3
          try clear qi3
          try clear c4
          try clear q4
          try clear c5
          try clear c6
          try clear c6b0
          try clear c6b1
          try clear p6
          try clear c7
          try clear c7b0
          try clear c7b1
          try clear c9
          try clear c9b0
          try clear c9b1
          try clear c11
          try clear c13
          try clear c13b0
          try clear c13b1
          try clear c15
          try clear c15b0
          try clear c15b1
          try clear c16
          try clear c16b0
          try clear c16b1
          try clear c23
          try clear c27
          try clear q27
          try clear c28
          try clear c28b0
          try clear c28b1
          try clear c29
          try clear p29
          try clear q29
          try clear hx29
          try clear qi29
          try clear p30
          try clear q30
          try clear hx30
          try clear qi30
          try clear c31
          try clear c34
          try clear c35
          try clear c35b0
          try clear c35b1
          try clear c36
          try clear c36b0
          try clear c36b1
          try clear c37
          try clear c40
          try clear q40
          try clear hcz12_0
          try clear hcz12_1
          try clear hcz12_2
          try clear hcz12_3
          try clear hcz30_0
          try clear hcz30_1
          try clear hcz30_2
          try clear hcz30_3
          try clear hcz32_0
          try clear hcz32_1
          try clear hcz32_2
          try clear hcz32_3
          try clear hcz38_0
          try clear hcz38_1
          try clear hcz38_2
          try clear hcz38_3
          try clear hfz12_0
          try clear hfz12_1
          try clear hfz12_2
          try clear hfz12_3
          try clear hfz30_0
          try clear hfz30_1
          try clear hfz30_2
          try clear hfz30_3
          try clear hfz32_0
          try clear hfz32_1
          try clear hfz32_2
          try clear hfz32_3
          try clear hfz38_0
          try clear hfz38_1
          try clear hfz38_2
          try clear hfz38_3
          try clear hx298_0
          try clear hx298_1
          try clear hx298_2
          try clear hx299_0
          try clear hx299_1
          try clear hx299_2
          try clear hx301_0
          try clear hx301_1
          try clear hx301_2
          try clear hx306_0
          try clear hx306_1
          try clear hx306_2
          try clear p2
          try clear p29
          try clear p298
          try clear p299
          try clear p3
          try clear p30
          try clear p301
          try clear p306
          try clear p6
          try clear q2
          try clear q27
          try clear q29
          try clear q298
          try clear q299
          try clear q3
          try clear q30
          try clear q301
          try clear q306
          try clear q40
          obtain ⟨kq, x4_32, x303002_32, HA, HJ32, HO_4, BK293, BK302, HB⟩ := hcut
          cases kq with
          | zero => exact absurd HA.out (by simp [layout_Parse.j2])
          | succ kj32 =>
           have H := HA.out
           clear HA
           simp only [layout_Parse.j2] at H
           have H' := Aside0.mk H
           clear H
           obtain ⟨Ao41, co41, eo41, _⟩ := Kd.Q_slice HO_4.out
           subst eo41
           go_wp2
           go_loopg [62] kj32 (fun kq v62 w' => ∃ (x62_4 : Int) (x303003_4 : List Int) (u303003 : Value), v62 = .int .i64 x62_4 ∧ Aside0 (layout_Parse.l0 kq a0 x4_32 (x4_32.length : Int) x62_4 (wrap64 (t300 + 1)) ((rd_T91 t294 1).f2) x303002_32 x303003_4 = some (r1, r2, r3, r4, r5)) ∧ Aside0 (kq ≤ kj32) ∧ Aside0 (Kd.Q k91 91 w' w.heap.size (fun _ => True) (.slice Ao41 x4_32.length co41) x4_32) ∧ Aside0 (Kd.R (Kd.int .i64) 3 w' w.heap.size (fun _ => True) u303003 x303003_4) ∧ Aside0 (w'.heap[gb293]? = some (.cells #[.int .i64 0, .string (⟨#[]⟩ : ByteArray), .string (⟨#[]⟩ : ByteArray), (.slice none 0 0)] 25 (0, 0))) ∧ Aside0 (w'.heap[gb302]? = some (.cells #[.int .i64 (wrap64 (t300 + 1)), .string ((rd_T91 t294 1).f2), .string x303002_32, u303003] 25 (0, 0))) ∧ Aside0 (Below w.heap.size w w'))
           case atStart => exact ⟨(0), (([] : List Int)), (.slice none 0 0), (by rfl), H', ⟨Nat.le_refl _⟩, ⟨by (with_reducible repeat (apply Kd.Q_drew)); exact HO_4.out⟩, ⟨by exact Kd.R_nil _ _ _ _ _⟩, ⟨by (with_reducible repeat (refine blk_drew ?_)); exact BK293.out⟩, ⟨by (with_reducible repeat (refine blk_drew ?_)); exact BK302.out⟩, ⟨by repeat ((with_reducible exact HB.out))⟩⟩
           case round =>
            clear H'
            try clear c1
            try clear c2
            try clear p2
            try clear q2
            try clear hx2
            try clear qi2
            try clear c3
            try clear p3
            try clear q3
            try clear hx3
            try clear qi3
            try clear c4
            try clear q4
            try clear c5
            try clear c6
            try clear c6b0
            try clear c6b1
            try clear p6
            try clear c7
            try clear c7b0
            try clear c7b1
            try clear c9
            try clear c9b0
            try clear c9b1
            try clear c11
            try clear c13
            try clear c13b0
            try clear c13b1
            try clear c15
            try clear c15b0
            try clear c15b1
            try clear c16
            try clear c16b0
            try clear c16b1
            try clear c23
            try clear c27
            try clear q27
            try clear c28
            try clear c28b0
            try clear c28b1
            try clear c29
            try clear p29
            try clear q29
            try clear hx29
            try clear qi29
            try clear p30
            try clear q30
            try clear hx30
            try clear qi30
            try clear c31
            try clear c34
            try clear c35
            try clear c35b0
            try clear c35b1
            try clear c36
            try clear c36b0
            try clear c36b1
            try clear c37
            try clear c40
            try clear q40
            try clear hcz12_0
            try clear hcz12_1
            try clear hcz12_2
            try clear hcz12_3
            try clear hcz30_0
            try clear hcz30_1
            try clear hcz30_2
            try clear hcz30_3
            try clear hcz32_0
            try clear hcz32_1
            try clear hcz32_2
            try clear hcz32_3
            try clear hcz38_0
            try clear hcz38_1
            try clear hcz38_2
            try clear hcz38_3
            try clear hfz12_0
            try clear hfz12_1
            try clear hfz12_2
            try clear hfz12_3
            try clear hfz30_0
            try clear hfz30_1
            try clear hfz30_2
            try clear hfz30_3
            try clear hfz32_0
            try clear hfz32_1
            try clear hfz32_2
            try clear hfz32_3
            try clear hfz38_0
            try clear hfz38_1
            try clear hfz38_2
            try clear hfz38_3
            try clear hx298_0
            try clear hx298_1
            try clear hx298_2
            try clear hx299_0
            try clear hx299_1
            try clear hx299_2
            try clear hx301_0
            try clear hx301_1
            try clear hx301_2
            try clear hx306_0
            try clear hx306_1
            try clear hx306_2
            try clear p2
            try clear p29
            try clear p298
            try clear p299
            try clear p3
            try clear p30
            try clear p301
            try clear p306
            try clear p6
            try clear q2
            try clear q27
            try clear q29
            try clear q298
            try clear q299
            try clear q3
            try clear q30
            try clear q301
            try clear q306
            try clear q4
            try clear q40
            obtain ⟨x62_4, x303003_4, u303003, rfl, HA, HK4, HO_60, HO_303003, BK293, BK302, HB⟩ := hrel
            cases gk with
            | zero => exact absurd HA.out (by simp [layout_Parse.l0])
            | succ k4 =>
             have H := HA.out
             clear HA
             simp only [layout_Parse.l0] at H
             by_cases c42 : x62_4 < (x4_32.length : Int)
             ·rw [if_pos c42] at H
              have c42b0 : decide (x62_4 < (x4_32.length : Int)) = true := decide_eq_true c42
              clear c42
              by_cases c43 : 0 ≤ x62_4
              ·rw [if_pos c43] at H
               have c43b0 : decide (0 ≤ x62_4) = true := decide_eq_true c43
               clear c43
               by_cases c44 : x62_4 < (x4_32.length : Int)
               ·rw [if_pos c44] at H
                have c44b0 : decide (x62_4 < (x4_32.length : Int)) = true := decide_eq_true c44
                clear c44
                by_cases c45 : x303003_4.length < 17592186044416
                ·rw [if_pos c45] at H
                 have LMc45 := Aside0.mk c45
                 clear c45
                 obtain ⟨y312, hy312⟩ : ∃ y_ : List Int, y_ = (x303003_4 ++ [(rd_T91 x4_32 x62_4).f1]) := ⟨_, rfl⟩
                 replace H : (layout_Parse.l0 k4 a0 x4_32 (x4_32.length : Int) (wrap64 (x62_4 + 1)) (wrap64 (t300 + 1)) ((rd_T91 t294 1).f2) x303002_32 y312) = some (r1, r2, r3, r4, r5) := by (rw [hy312]; with_reducible exact H)
                 have Ny312 := Aside0.mk hy312
                 clear hy312
                 have H' := Aside0.mk H
                 clear H
                 have p310 : 0 ≤ (x62_4 : Int) := of_decide_eq_true (by (with_reducible assumption))
                 have q310 : x62_4 < (x4_32.length : Int) := of_decide_eq_true (by (with_reducible assumption))
                 obtain ⟨ad310, e310, hx310_0, hx310_1, hx310_2⟩ := at_T91 (Kd.Q_reads' HO_60.out).2.2 x62_4 p310 q310
                 cases e310
                 replace p310 := eq_true p310
                 replace q310 := eq_true q310
                 go_wp2_with (first | ((with_reducible refine gate_dst (N := 8) rfl ?_); (try (refine gate_guard (by rfl) ?_; dsimp only)); refine box_event ?hg (N := 8) ?hd (cs := #[.int .i64 0, .int .i64 0, .string (⟨#[]⟩ : ByteArray)]) (t := 91) ?hr ?_; (case hd => rfl); (case hg => rfl); (case hr => (go_simp; done)); intro gb311 hg w46 hbox hb; have n0_ := Aside0.mk (Kd.Q_below (Kd.Q_elderB (by (with_reducible repeat (apply Kd.Q_drew)); exact HO_60.out) gb311 (Nat.le_of_eq hg.symm)) hb); have n1_ := Aside0.mk (Kd.R_below (by (with_reducible repeat (apply Kd.R_drew)); exact HO_303003.out) hb); have n2_ := Aside0.mk (blk_below (g := gb293) (o := .cells #[.int .i64 0, .string (⟨#[]⟩ : ByteArray), .string (⟨#[]⟩ : ByteArray), .slice none 0 0] 25 (0, 0)) (by (with_reducible repeat (refine blk_drew ?_)); exact BK293.out) hb); have n3_ := Aside0.mk (blk_below (g := gb302) (o := .cells #[.int .i64 (wrap64 (t300 + 1)), .string ((rd_T91 t294 1).f2), .string x303002_32, u303003] 25 (0, 0)) (by (with_reducible repeat (refine blk_drew ?_)); exact BK302.out) hb); have n4_ := Aside0.mk (below_step (by repeat ((with_reducible exact HB.out))) hb); have n5_ := Aside0.mk (hbox); have n6_ := Aside0.mk ((by rw [hg]; exact (below_size (by repeat ((with_reducible exact HB.out)))) : w.heap.size ≤ gb311)); have n7_ := Aside0.mk ((by rw [hg]; exact (below_size (by repeat ((with_reducible exact HB.out)))) : w.heap.size ≤ gb311)); have n8_ := Aside0.mk ((by rw [hg]; exact Nat.ne_of_lt (blk_lt (g := gb293) (o := .cells #[.int .i64 0, .string (⟨#[]⟩ : ByteArray), .string (⟨#[]⟩ : ByteArray), .slice none 0 0] 25 (0, 0)) (by (with_reducible repeat (refine blk_drew ?_)); exact BK293.out)) : gb293 ≠ gb311)); have n9_ := Aside0.mk ((by rw [hg]; exact Nat.ne_of_gt (blk_lt (g := gb293) (o := .cells #[.int .i64 0, .string (⟨#[]⟩ : ByteArray), .string (⟨#[]⟩ : ByteArray), .slice none 0 0] 25 (0, 0)) (by (with_reducible repeat (refine blk_drew ?_)); exact BK293.out)) : gb311 ≠ gb293)); have n10_ := Aside0.mk ((by rw [hg]; exact Nat.ne_of_lt (blk_lt (g := gb302) (o := .cells #[.int .i64 (wrap64 (t300 + 1)), .string ((rd_T91 t294 1).f2), .string x303002_32, u303003] 25 (0, 0)) (by (with_reducible repeat (refine blk_drew ?_)); exact BK302.out)) : gb302 ≠ gb311)); have n11_ := Aside0.mk ((by rw [hg]; exact Nat.ne_of_gt (blk_lt (g := gb302) (o := .cells #[.int .i64 (wrap64 (t300 + 1)), .string ((rd_T91 t294 1).f2), .string x303002_32, u303003] 25 (0, 0)) (by (with_reducible repeat (refine blk_drew ?_)); exact BK302.out)) : gb311 ≠ gb302)); clear HO_60; clear HO_303003; clear BK293; clear BK302; clear HB; have HO_60 := n0_; have HO_303003 := n1_; have BK293 := n2_; have BK302 := n3_; have HB := n4_; have BK311 := n5_; have GW311 := n6_; have GE311 := n7_; have NB293_311 := n8_; have NB311_293 := n9_; have NB302_311 := n10_; have NB311_302 := n11_; clear n0_ n1_ n2_ n3_ n4_ n5_ n6_ n7_ n8_ n9_ n10_ n11_; clear hb hbox hg; have hnb47 := NB311_293.out; have hnc47 := NB293_311.out; have hnb48 := NB311_302.out; have hnc48 := NB302_311.out; have hcz49_0 : w46.cell? ⟨gb311, 0, none⟩ = some (.int .i64 0) := (blk_cell BK311.out 0).trans rfl; have hcz49_1 : w46.cell? ⟨gb311, 1, none⟩ = some (.int .i64 0) := (blk_cell BK311.out 1).trans rfl; have hcz49_2 : w46.cell? ⟨gb311, 2, none⟩ = some (.string (⟨#[]⟩ : ByteArray)) := (blk_cell BK311.out 2).trans rfl; have hfz49_0 := blk_frozen BK311.out 0; have hfz49_1 := blk_frozen BK311.out 1; have hfz49_2 := blk_frozen BK311.out 2; have hnb50 := NB302_293.out; have hnc50 := NB293_302.out; have hcz51_0 : w46.cell? ⟨gb302, 0, none⟩ = some (.int .i64 (wrap64 (t300 + 1))) := (blk_cell BK302.out 0).trans rfl; have hcz51_1 : w46.cell? ⟨gb302, 1, none⟩ = some (.string ((rd_T91 t294 1).f2)) := (blk_cell BK302.out 1).trans rfl; have hcz51_2 : w46.cell? ⟨gb302, 2, none⟩ = some (.string x303002_32) := (blk_cell BK302.out 2).trans rfl; have hcz51_3 : w46.cell? ⟨gb302, 3, none⟩ = some (u303003) := (blk_cell BK302.out 3).trans rfl; have hfz51_0 := blk_frozen BK302.out 0; have hfz51_1 := blk_frozen BK302.out 1; have hfz51_2 := blk_frozen BK302.out 2; have hfz51_3 := blk_frozen BK302.out 3) | ((with_reducible refine gate_builtin (b := .append) (xs := #[.tmp 67, .tmp 70]) rfl ?_); (try (refine gate_guard (by rfl) ?_; dsimp only)); at_builtin; refine Kd.R_append (Kd.int .i64) (w0 := w) w.heap.size rfl (.tmp 67) (.tmp 70) 23 3 (.int .i64 0) 8 rfl Tryd.underlying23 info3 rfl (by decide) (by omega) u303003 x303003_4 ((rd_T91 x4_32 x62_4).f1) [.int .i64 ((rd_T91 x4_32 x62_4).f1)] (fun _ => True) (fun _ => False) rfl (by (go_simp; done)) ?aP (fun _ hk => hk.elim) ?aF ?aO ?aB ?aS ?aL ?_; (case aP => exact rfl); (case aB => exact (by repeat ((with_reducible first | exact HB.out | refine below_set ?_ GE311.out)))); (case aF => exact (fun _ _ => trivial)); (case aO => exact (by (with_reducible repeat (apply Kd.R_drew)); exact Kd.R_mono (Kd.R_far (p := ⟨gb311, 2, none⟩) (Kd.R_far (p := ⟨gb311, 1, none⟩) (Kd.R_far (p := ⟨gb311, 0, none⟩) (Kd.R_types HO_303003.out BK311.out (by decide)) (fun _ hk => hk.2) (.int .i64 ((rd_T91 x4_32 x62_4).f0))) (fun _ hk => hk.2) (.int .i64 ((rd_T91 x4_32 x62_4).f1))) (fun _ hk => hk.2) (.string ((rd_T91 x4_32 x62_4).f2))) (fun _ hk => trivial))); (case aS => exact (below_size (by repeat ((with_reducible first | exact HB.out | refine below_set ?_ GE311.out))))); (case aL => have := LMc45.out; omega); intro v313 w52 ho hb hg hat; rw [← Ny312.out] at ho; have n0_ := Aside0.mk (Kd.Q_over' (by (with_reducible repeat (apply Kd.Q_drew)); exact (Kd.Q_mono (Kd.Q_far (p := ⟨gb311, 2, none⟩) (Kd.Q_far (p := ⟨gb311, 1, none⟩) (Kd.Q_far (p := ⟨gb311, 0, none⟩) (Kd.Q_mono HO_60.out (fun k_ hk => (⟨hk, hk.2⟩ : _ ∧ k_ ≠ gb311))) (fun _ hk => hk.2) (.int .i64 ((rd_T91 x4_32 x62_4).f0))) (fun _ hk => hk.2) (.int .i64 ((rd_T91 x4_32 x62_4).f1))) (fun _ hk => hk.2) (.string ((rd_T91 x4_32 x62_4).f2))) (fun _ h_ => h_.1))) (Kd.R_typed (by (with_reducible repeat (apply Kd.R_drew)); exact (Kd.R_mono (Kd.R_far (p := ⟨gb311, 2, none⟩) (Kd.R_far (p := ⟨gb311, 1, none⟩) (Kd.R_far (p := ⟨gb311, 0, none⟩) (Kd.R_types HO_303003.out BK311.out (by decide)) (fun _ hk => hk.2) (.int .i64 ((rd_T91 x4_32 x62_4).f0))) (fun _ hk => hk.2) (.int .i64 ((rd_T91 x4_32 x62_4).f1))) (fun _ hk => hk.2) (.string ((rd_T91 x4_32 x62_4).f2))) (fun _ h_ => h_.1)))) (by decide) hg); have n1_ := Aside0.mk (blk_grown (g := gb293) (o := .cells #[.int .i64 0, .string (⟨#[]⟩ : ByteArray), .string (⟨#[]⟩ : ByteArray), .slice none 0 0] 25 (0, 0)) (by (with_reducible repeat (refine blk_drew ?_)); refine blk_far ?_ NB293_311.out _; (with_reducible repeat (refine blk_drew ?_)); refine blk_far ?_ NB293_311.out _; (with_reducible repeat (refine blk_drew ?_)); refine blk_far ?_ NB293_311.out _; (with_reducible repeat (refine blk_drew ?_)); exact BK293.out) hg (Kd.R_ne HO_303003.out BK293.out (by decide))); have n2_ := Aside0.mk (blk_grown (g := gb302) (o := .cells #[.int .i64 (wrap64 (t300 + 1)), .string ((rd_T91 t294 1).f2), .string x303002_32, u303003] 25 (0, 0)) (by (with_reducible repeat (refine blk_drew ?_)); refine blk_far ?_ NB302_311.out _; (with_reducible repeat (refine blk_drew ?_)); refine blk_far ?_ NB302_311.out _; (with_reducible repeat (refine blk_drew ?_)); refine blk_far ?_ NB302_311.out _; (with_reducible repeat (refine blk_drew ?_)); exact BK302.out) hg (Kd.R_ne HO_303003.out BK302.out (by decide))); have n3_ := Aside0.mk (blk_grown (g := gb311) (o := .cells #[.int .i64 ((rd_T91 x4_32 x62_4).f0), .int .i64 ((rd_T91 x4_32 x62_4).f1), .string ((rd_T91 x4_32 x62_4).f2)] 91 (0, 0)) (by (with_reducible repeat (refine blk_drew ?_)); refine blk_put (cs := #[.int .i64 ((rd_T91 x4_32 x62_4).f0), .int .i64 ((rd_T91 x4_32 x62_4).f1), .string (⟨#[]⟩ : ByteArray)]) ?_ 2 _ rfl; (with_reducible repeat (refine blk_drew ?_)); refine blk_put (cs := #[.int .i64 ((rd_T91 x4_32 x62_4).f0), .int .i64 0, .string (⟨#[]⟩ : ByteArray)]) ?_ 1 _ rfl; (with_reducible repeat (refine blk_drew ?_)); refine blk_put (cs := #[.int .i64 0, .int .i64 0, .string (⟨#[]⟩ : ByteArray)]) ?_ 0 _ rfl; (with_reducible repeat (refine blk_drew ?_)); exact BK311.out) hg (Kd.R_ne HO_303003.out BK311.out (by decide))); have n4_ := Aside0.mk (hb); have n5_ := Aside0.mk (ho); clear HO_60; clear BK293; clear BK302; clear BK311; clear HB; clear HO_303003; have HO_60 := n0_; have BK293 := n1_; have BK302 := n2_; have BK311 := n3_; have HB := n4_; have HO314 := n5_; clear n0_ n1_ n2_ n3_ n4_ n5_; clear ho hb hg hat; obtain ⟨Ao53, co53, eo53⟩ := Kd.R_slice HO314.out; subst eo53; have hcz54_0 : w52.cell? ⟨gb302, 0, none⟩ = some (.int .i64 (wrap64 (t300 + 1))) := (blk_cell BK302.out 0).trans rfl; have hcz54_1 : w52.cell? ⟨gb302, 1, none⟩ = some (.string ((rd_T91 t294 1).f2)) := (blk_cell BK302.out 1).trans rfl; have hcz54_2 : w52.cell? ⟨gb302, 2, none⟩ = some (.string x303002_32) := (blk_cell BK302.out 2).trans rfl; have hcz54_3 : w52.cell? ⟨gb302, 3, none⟩ = some (u303003) := (blk_cell BK302.out 3).trans rfl; have hfz54_0 := blk_frozen BK302.out 0; have hfz54_1 := blk_frozen BK302.out 1; have hfz54_2 := blk_frozen BK302.out 2; have hfz54_3 := blk_frozen BK302.out 3))
                 go_roundg k4
                 case measure => have := HJ2.out; have := HJ16.out; have := HJ32.out; have := HK4.out; omega
                 case rel => exact ⟨(wrap64 (x62_4 + 1)), (y312), (.slice Ao53 y312.length co53), (by rfl), H', ⟨by have := HJ2.out; have := HJ16.out; have := HJ32.out; have := HK4.out; omega⟩, ⟨by (with_reducible repeat (apply Kd.Q_drew)); exact Kd.Q_mono (Kd.Q_far (p := ⟨gb302, 3, none⟩) (Kd.Q_types HO_60.out BK302.out (by decide)) (fun _ hk => hk.2) (.slice Ao53 y312.length co53)) (fun _ hk => trivial)⟩, ⟨by (with_reducible repeat (apply Kd.R_drew)); exact Kd.R_mono (Kd.R_far (p := ⟨gb302, 3, none⟩) (Kd.R_types HO314.out BK302.out (by decide)) (fun _ hk => hk.2) (.slice Ao53 y312.length co53)) (fun _ hk => trivial)⟩, ⟨by (with_reducible repeat (refine blk_drew ?_)); refine blk_far ?_ NB293_302.out _; (with_reducible repeat (refine blk_drew ?_)); exact BK293.out⟩, ⟨by (with_reducible repeat (refine blk_drew ?_)); refine blk_put (cs := #[.int .i64 (wrap64 (t300 + 1)), .string ((rd_T91 t294 1).f2), .string x303002_32, u303003]) ?_ 3 _ rfl; (with_reducible repeat (refine blk_drew ?_)); exact BK302.out⟩, ⟨by repeat ((with_reducible first | exact HB.out | refine below_set ?_ GE302.out))⟩⟩
                ·rw [if_neg c45] at H
                 exact absurd H (by simp)
               ·rw [if_neg c44] at H
                exact absurd H (by simp)
              ·rw [if_neg c43] at H
               exact absurd H (by simp)
             ·rw [if_neg c42] at H
              have c42b0 : decide (x62_4 < (x4_32.length : Int)) = false := decide_eq_false c42
              clear c42
              replace H := Option.bind_eq_some_iff.mp H
              obtain ⟨⟨t315, t316⟩, A550, H⟩ := H
              replace H : (if t316 = 0 then (if t315.toList = a0.toList then (some ((wrap64 (t300 + 1)), ((rd_T91 t294 1).f2), x303002_32, x303003_4, 0)) else (some (0, (⟨#[]⟩ : ByteArray), (⟨#[]⟩ : ByteArray), ([] : List Int), 4))) else (some (0, (⟨#[]⟩ : ByteArray), (⟨#[]⟩ : ByteArray), ([] : List Int), 4))) = some (r1, r2, r3, r4, r5) := H
              have A55 := Aside0.mk A550
              clear A550
              by_cases c56 : t316 = 0
              ·rw [if_pos c56] at H
               have c56b0 : (t316 == 0) = true := beq_iff_eq.mpr c56
               have c56b1 : (t316 != 0) = false := bne_eq_false_iff_eq.mpr c56
               clear c56
               by_cases c57 : t315.toList = a0.toList
               ·rw [if_pos c57] at H
                have c57b0 : (t315.toList == a0.toList) = true := beq_iff_eq.mpr c57
                have c57b1 : (t315.toList != a0.toList) = false := bne_eq_false_iff_eq.mpr c57
                clear c57
                simp only [Option.some.injEq, Prod.mk.injEq] at H
                obtain ⟨rfl, rfl, rfl, rfl, rfl⟩ := H
                have hnb58 := NB302_293.out
                have hnc58 := NB293_302.out
                have hcz59_0 : wr.cell? ⟨gb302, 0, none⟩ = some (.int .i64 (wrap64 (t300 + 1))) := (blk_cell BK302.out 0).trans rfl
                have hcz59_1 : wr.cell? ⟨gb302, 1, none⟩ = some (.string ((rd_T91 t294 1).f2)) := (blk_cell BK302.out 1).trans rfl
                have hcz59_2 : wr.cell? ⟨gb302, 2, none⟩ = some (.string x303002_32) := (blk_cell BK302.out 2).trans rfl
                have hcz59_3 : wr.cell? ⟨gb302, 3, none⟩ = some (u303003) := (blk_cell BK302.out 3).trans rfl
                have hfz59_0 := blk_frozen BK302.out 0
                have hfz59_1 := blk_frozen BK302.out 1
                have hfz59_2 := blk_frozen BK302.out 2
                have hfz59_3 := blk_frozen BK302.out 3
                obtain ⟨Ao60, co60, eo60⟩ := Kd.R_slice HO_303003.out
                subst eo60
                go_wp2_with (((with_reducible refine gate_callee (f := 11) rfl ?_); refine goesL_ (some 76) rfl rfl Tryd.func11 (by kernel_rfl) rfl #[.agg #[.int .i64 (wrap64 (t300 + 1)), .string ((rd_T91 t294 1).f2), .string x303002_32, .slice Ao60 x303003_4.length co60]] rfl (by (try simp only [List.map_toArray, List.map_cons, List.map_nil]); rfl) ?_; (with_reducible refine (layout_Key.calls k4 (wrap64 (t300 + 1)) ((rd_T91 t294 1).f2) x303002_32 _ _ x303003_4 t315 t316 _ ?side1 ?side2 A55.out).mono ?_); (case side1 => repeat (exact (Kd.R_reads' HO_303003.out).2.2)); (case side2 => exact (Kd.R_reads' HO_303003.out).2.1); rintro e w61 ⟨rfl, hb⟩; refine ⟨_, rfl, ?_⟩; have n0_ := Aside0.mk (Kd.Q_below (by (with_reducible repeat (apply Kd.Q_drew)); exact HO_60.out) hb); have n1_ := Aside0.mk (Kd.R_below (by (with_reducible repeat (apply Kd.R_drew)); exact HO_303003.out) hb); have n2_ := Aside0.mk (blk_below (g := gb293) (o := .cells #[.int .i64 0, .string (⟨#[]⟩ : ByteArray), .string (⟨#[]⟩ : ByteArray), .slice none 0 0] 25 (0, 0)) (by (with_reducible repeat (refine blk_drew ?_)); exact BK293.out) hb); have n3_ := Aside0.mk (blk_below (g := gb302) (o := .cells #[.int .i64 (wrap64 (t300 + 1)), .string ((rd_T91 t294 1).f2), .string x303002_32, .slice Ao60 x303003_4.length co60] 25 (0, 0)) (by (with_reducible repeat (refine blk_drew ?_)); exact BK302.out) hb); have n4_ := Aside0.mk (below_step (by repeat ((with_reducible exact HB.out))) hb); clear HO_60; clear HO_303003; clear BK293; clear BK302; clear HB; have HO_60 := n0_; have HO_303003 := n1_; have BK293 := n2_; have BK302 := n3_; have HB := n4_; clear n0_ n1_ n2_ n3_ n4_; (try clear hb); (try clear hb2); (try clear hk); (try clear hi); have hcz62_0 : w61.cell? ⟨gb302, 0, none⟩ = some (.int .i64 (wrap64 (t300 + 1))) := (blk_cell BK302.out 0).trans rfl; have hcz62_1 : w61.cell? ⟨gb302, 1, none⟩ = some (.string ((rd_T91 t294 1).f2)) := (blk_cell BK302.out 1).trans rfl; have hcz62_2 : w61.cell? ⟨gb302, 2, none⟩ = some (.string x303002_32) := (blk_cell BK302.out 2).trans rfl; have hcz62_3 : w61.cell? ⟨gb302, 3, none⟩ = some (.slice Ao60 x303003_4.length co60) := (blk_cell BK302.out 3).trans rfl; have hfz62_0 := blk_frozen BK302.out 0; have hfz62_1 := blk_frozen BK302.out 1; have hfz62_2 := blk_frozen BK302.out 2; have hfz62_3 := blk_frozen BK302.out 3; have hcz63_0 : w61.cell? ⟨gb293, 0, none⟩ = some (.int .i64 0) := (blk_cell BK293.out 0).trans rfl; have hcz63_1 : w61.cell? ⟨gb293, 1, none⟩ = some (.string (⟨#[]⟩ : ByteArray)) := (blk_cell BK293.out 1).trans rfl; have hcz63_2 : w61.cell? ⟨gb293, 2, none⟩ = some (.string (⟨#[]⟩ : ByteArray)) := (blk_cell BK293.out 2).trans rfl; have hcz63_3 : w61.cell? ⟨gb293, 3, none⟩ = some (.slice none 0 0) := (blk_cell BK293.out 3).trans rfl; have hfz63_0 := blk_frozen BK293.out 0; have hfz63_1 := blk_frozen BK293.out 1; have hfz63_2 := blk_frozen BK293.out 2; have hfz63_3 := blk_frozen BK293.out 3))
                refine bodyPost_ret (results_ct rfl _ _ gb293 25 #[.int .i64 (wrap64 (t300 + 1)), .string ((rd_T91 t294 1).f2), .string x303002_32, .slice Ao60 x303003_4.length co60] (0, 0) _ rfl (by (with_reducible repeat (refine blk_drew ?_)); refine blk_put (cs := #[.int .i64 (wrap64 (t300 + 1)), .string ((rd_T91 t294 1).f2), .string x303002_32, .slice none 0 0]) ?_ 3 _ rfl; (with_reducible repeat (refine blk_drew ?_)); refine blk_put (cs := #[.int .i64 (wrap64 (t300 + 1)), .string ((rd_T91 t294 1).f2), .string (⟨#[]⟩ : ByteArray), .slice none 0 0]) ?_ 2 _ rfl; (with_reducible repeat (refine blk_drew ?_)); refine blk_put (cs := #[.int .i64 (wrap64 (t300 + 1)), .string (⟨#[]⟩ : ByteArray), .string (⟨#[]⟩ : ByteArray), .slice none 0 0]) ?_ 1 _ rfl; (with_reducible repeat (refine blk_drew ?_)); refine blk_put (cs := #[.int .i64 0, .string (⟨#[]⟩ : ByteArray), .string (⟨#[]⟩ : ByteArray), .slice none 0 0]) ?_ 0 _ rfl; (with_reducible repeat (refine blk_drew ?_)); exact BK293.out) Tryd.underlying25 rfl (by kernel_rfl)) rfl ?_
                exact ⟨_, by rfl, by (with_reducible repeat (apply Kd.R_drew)); exact Kd.R_mono (Kd.R_far (p := ⟨gb293, 3, none⟩) (Kd.R_far (p := ⟨gb293, 2, none⟩) (Kd.R_far (p := ⟨gb293, 1, none⟩) (Kd.R_far (p := ⟨gb293, 0, none⟩) (Kd.R_types HO_303003.out BK293.out (by decide)) (fun _ hk => hk.2) (.int .i64 (wrap64 (t300 + 1)))) (fun _ hk => hk.2) (.string ((rd_T91 t294 1).f2))) (fun _ hk => hk.2) (.string x303002_32)) (fun _ hk => hk.2) (.slice Ao60 x303003_4.length co60)) (fun _ hk => trivial), by repeat ((with_reducible first | exact HB.out | refine below_set ?_ GE293.out))⟩
               ·rw [if_neg c57] at H
                have c57b0 : (t315.toList == a0.toList) = false := beq_eq_false_iff_ne.mpr c57
                have c57b1 : (t315.toList != a0.toList) = true := bne_iff_ne.mpr c57
                simp only [Option.some.injEq, Prod.mk.injEq] at H
                obtain ⟨rfl, rfl, rfl, rfl, rfl⟩ := H
                have hnb64 := NB302_293.out
                have hnc64 := NB293_302.out
                have hcz65_0 : wr.cell? ⟨gb302, 0, none⟩ = some (.int .i64 (wrap64 (t300 + 1))) := (blk_cell BK302.out 0).trans rfl
                have hcz65_1 : wr.cell? ⟨gb302, 1, none⟩ = some (.string ((rd_T91 t294 1).f2)) := (blk_cell BK302.out 1).trans rfl
                have hcz65_2 : wr.cell? ⟨gb302, 2, none⟩ = some (.string x303002_32) := (blk_cell BK302.out 2).trans rfl
                have hcz65_3 : wr.cell? ⟨gb302, 3, none⟩ = some (u303003) := (blk_cell BK302.out 3).trans rfl
                have hfz65_0 := blk_frozen BK302.out 0
                have hfz65_1 := blk_frozen BK302.out 1
                have hfz65_2 := blk_frozen BK302.out 2
                have hfz65_3 := blk_frozen BK302.out 3
                obtain ⟨Ao66, co66, eo66⟩ := Kd.R_slice HO_303003.out
                subst eo66
                go_wp2_with (((with_reducible refine gate_callee (f := 11) rfl ?_); refine goesL_ (some 76) rfl rfl Tryd.func11 (by kernel_rfl) rfl #[.agg #[.int .i64 (wrap64 (t300 + 1)), .string ((rd_T91 t294 1).f2), .string x303002_32, .slice Ao66 x303003_4.length co66]] rfl (by (try simp only [List.map_toArray, List.map_cons, List.map_nil]); rfl) ?_; (with_reducible refine (layout_Key.calls k4 (wrap64 (t300 + 1)) ((rd_T91 t294 1).f2) x303002_32 _ _ x303003_4 t315 t316 _ ?side1 ?side2 A55.out).mono ?_); (case side1 => repeat (exact (Kd.R_reads' HO_303003.out).2.2)); (case side2 => exact (Kd.R_reads' HO_303003.out).2.1); rintro e w67 ⟨rfl, hb⟩; refine ⟨_, rfl, ?_⟩; have n0_ := Aside0.mk (Kd.Q_below (by (with_reducible repeat (apply Kd.Q_drew)); exact HO_60.out) hb); have n1_ := Aside0.mk (Kd.R_below (by (with_reducible repeat (apply Kd.R_drew)); exact HO_303003.out) hb); have n2_ := Aside0.mk (blk_below (g := gb293) (o := .cells #[.int .i64 0, .string (⟨#[]⟩ : ByteArray), .string (⟨#[]⟩ : ByteArray), .slice none 0 0] 25 (0, 0)) (by (with_reducible repeat (refine blk_drew ?_)); exact BK293.out) hb); have n3_ := Aside0.mk (blk_below (g := gb302) (o := .cells #[.int .i64 (wrap64 (t300 + 1)), .string ((rd_T91 t294 1).f2), .string x303002_32, .slice Ao66 x303003_4.length co66] 25 (0, 0)) (by (with_reducible repeat (refine blk_drew ?_)); exact BK302.out) hb); have n4_ := Aside0.mk (below_step (by repeat ((with_reducible exact HB.out))) hb); clear HO_60; clear HO_303003; clear BK293; clear BK302; clear HB; have HO_60 := n0_; have HO_303003 := n1_; have BK293 := n2_; have BK302 := n3_; have HB := n4_; clear n0_ n1_ n2_ n3_ n4_; (try clear hb); (try clear hb2); (try clear hk); (try clear hi); have hcz68_0 : w67.cell? ⟨gb293, 0, none⟩ = some (.int .i64 0) := (blk_cell BK293.out 0).trans rfl; have hcz68_1 : w67.cell? ⟨gb293, 1, none⟩ = some (.string (⟨#[]⟩ : ByteArray)) := (blk_cell BK293.out 1).trans rfl; have hcz68_2 : w67.cell? ⟨gb293, 2, none⟩ = some (.string (⟨#[]⟩ : ByteArray)) := (blk_cell BK293.out 2).trans rfl; have hcz68_3 : w67.cell? ⟨gb293, 3, none⟩ = some (.slice none 0 0) := (blk_cell BK293.out 3).trans rfl; have hfz68_0 := blk_frozen BK293.out 0; have hfz68_1 := blk_frozen BK293.out 1; have hfz68_2 := blk_frozen BK293.out 2; have hfz68_3 := blk_frozen BK293.out 3))
                refine bodyPost_ret (results_ct rfl _ _ gb293 25 #[.int .i64 0, .string (⟨#[]⟩ : ByteArray), .string (⟨#[]⟩ : ByteArray), .slice none 0 0] (0, 0) _ rfl (by (with_reducible repeat (refine blk_drew ?_)); refine blk_put (cs := #[.int .i64 0, .string (⟨#[]⟩ : ByteArray), .string (⟨#[]⟩ : ByteArray), .slice none 0 0]) ?_ 3 _ rfl; (with_reducible repeat (refine blk_drew ?_)); refine blk_put (cs := #[.int .i64 0, .string (⟨#[]⟩ : ByteArray), .string (⟨#[]⟩ : ByteArray), .slice none 0 0]) ?_ 2 _ rfl; (with_reducible repeat (refine blk_drew ?_)); refine blk_put (cs := #[.int .i64 0, .string (⟨#[]⟩ : ByteArray), .string (⟨#[]⟩ : ByteArray), .slice none 0 0]) ?_ 1 _ rfl; (with_reducible repeat (refine blk_drew ?_)); refine blk_put (cs := #[.int .i64 0, .string (⟨#[]⟩ : ByteArray), .string (⟨#[]⟩ : ByteArray), .slice none 0 0]) ?_ 0 _ rfl; (with_reducible repeat (refine blk_drew ?_)); exact BK293.out) Tryd.underlying25 rfl (by kernel_rfl)) rfl ?_
                exact ⟨_, by rfl, by exact Kd.R_nil _ _ _ _ _, by repeat ((with_reducible first | exact HB.out | refine below_set ?_ GE293.out))⟩
              ·rw [if_neg c56] at H
               have c56b0 : (t316 == 0) = false := beq_eq_false_iff_ne.mpr c56
               have c56b1 : (t316 != 0) = true := bne_iff_ne.mpr c56
               simp only [Option.some.injEq, Prod.mk.injEq] at H
               obtain ⟨rfl, rfl, rfl, rfl, rfl⟩ := H
               have hnb69 := NB302_293.out
               have hnc69 := NB293_302.out
               have hcz70_0 : wr.cell? ⟨gb302, 0, none⟩ = some (.int .i64 (wrap64 (t300 + 1))) := (blk_cell BK302.out 0).trans rfl
               have hcz70_1 : wr.cell? ⟨gb302, 1, none⟩ = some (.string ((rd_T91 t294 1).f2)) := (blk_cell BK302.out 1).trans rfl
               have hcz70_2 : wr.cell? ⟨gb302, 2, none⟩ = some (.string x303002_32) := (blk_cell BK302.out 2).trans rfl
               have hcz70_3 : wr.cell? ⟨gb302, 3, none⟩ = some (u303003) := (blk_cell BK302.out 3).trans rfl
               have hfz70_0 := blk_frozen BK302.out 0
               have hfz70_1 := blk_frozen BK302.out 1
               have hfz70_2 := blk_frozen BK302.out 2
               have hfz70_3 := blk_frozen BK302.out 3
               obtain ⟨Ao71, co71, eo71⟩ := Kd.R_slice HO_303003.out
               subst eo71
               go_wp2_with (((with_reducible refine gate_callee (f := 11) rfl ?_); refine goesL_ (some 76) rfl rfl Tryd.func11 (by kernel_rfl) rfl #[.agg #[.int .i64 (wrap64 (t300 + 1)), .string ((rd_T91 t294 1).f2), .string x303002_32, .slice Ao71 x303003_4.length co71]] rfl (by (try simp only [List.map_toArray, List.map_cons, List.map_nil]); rfl) ?_; (with_reducible refine (layout_Key.calls k4 (wrap64 (t300 + 1)) ((rd_T91 t294 1).f2) x303002_32 _ _ x303003_4 t315 t316 _ ?side1 ?side2 A55.out).mono ?_); (case side1 => repeat (exact (Kd.R_reads' HO_303003.out).2.2)); (case side2 => exact (Kd.R_reads' HO_303003.out).2.1); rintro e w72 ⟨rfl, hb⟩; refine ⟨_, rfl, ?_⟩; have n0_ := Aside0.mk (Kd.Q_below (by (with_reducible repeat (apply Kd.Q_drew)); exact HO_60.out) hb); have n1_ := Aside0.mk (Kd.R_below (by (with_reducible repeat (apply Kd.R_drew)); exact HO_303003.out) hb); have n2_ := Aside0.mk (blk_below (g := gb293) (o := .cells #[.int .i64 0, .string (⟨#[]⟩ : ByteArray), .string (⟨#[]⟩ : ByteArray), .slice none 0 0] 25 (0, 0)) (by (with_reducible repeat (refine blk_drew ?_)); exact BK293.out) hb); have n3_ := Aside0.mk (blk_below (g := gb302) (o := .cells #[.int .i64 (wrap64 (t300 + 1)), .string ((rd_T91 t294 1).f2), .string x303002_32, .slice Ao71 x303003_4.length co71] 25 (0, 0)) (by (with_reducible repeat (refine blk_drew ?_)); exact BK302.out) hb); have n4_ := Aside0.mk (below_step (by repeat ((with_reducible exact HB.out))) hb); clear HO_60; clear HO_303003; clear BK293; clear BK302; clear HB; have HO_60 := n0_; have HO_303003 := n1_; have BK293 := n2_; have BK302 := n3_; have HB := n4_; clear n0_ n1_ n2_ n3_ n4_; (try clear hb); (try clear hb2); (try clear hk); (try clear hi); have hcz73_0 : w72.cell? ⟨gb293, 0, none⟩ = some (.int .i64 0) := (blk_cell BK293.out 0).trans rfl; have hcz73_1 : w72.cell? ⟨gb293, 1, none⟩ = some (.string (⟨#[]⟩ : ByteArray)) := (blk_cell BK293.out 1).trans rfl; have hcz73_2 : w72.cell? ⟨gb293, 2, none⟩ = some (.string (⟨#[]⟩ : ByteArray)) := (blk_cell BK293.out 2).trans rfl; have hcz73_3 : w72.cell? ⟨gb293, 3, none⟩ = some (.slice none 0 0) := (blk_cell BK293.out 3).trans rfl; have hfz73_0 := blk_frozen BK293.out 0; have hfz73_1 := blk_frozen BK293.out 1; have hfz73_2 := blk_frozen BK293.out 2; have hfz73_3 := blk_frozen BK293.out 3))
               refine bodyPost_ret (results_ct rfl _ _ gb293 25 #[.int .i64 0, .string (⟨#[]⟩ : ByteArray), .string (⟨#[]⟩ : ByteArray), .slice none 0 0] (0, 0) _ rfl (by (with_reducible repeat (refine blk_drew ?_)); refine blk_put (cs := #[.int .i64 0, .string (⟨#[]⟩ : ByteArray), .string (⟨#[]⟩ : ByteArray), .slice none 0 0]) ?_ 3 _ rfl; (with_reducible repeat (refine blk_drew ?_)); refine blk_put (cs := #[.int .i64 0, .string (⟨#[]⟩ : ByteArray), .string (⟨#[]⟩ : ByteArray), .slice none 0 0]) ?_ 2 _ rfl; (with_reducible repeat (refine blk_drew ?_)); refine blk_put (cs := #[.int .i64 0, .string (⟨#[]⟩ : ByteArray), .string (⟨#[]⟩ : ByteArray), .slice none 0 0]) ?_ 1 _ rfl; (with_reducible repeat (refine blk_drew ?_)); refine blk_put (cs := #[.int .i64 0, .string (⟨#[]⟩ : ByteArray), .string (⟨#[]⟩ : ByteArray), .slice none 0 0]) ?_ 0 _ rfl; (with_reducible repeat (refine blk_drew ?_)); exact BK293.out) Tryd.underlying25 rfl (by kernel_rfl)) rfl ?_
               exact ⟨_, by rfl, by exact Kd.R_nil _ _ _ _ _, by repeat ((with_reducible first | exact HB.out | refine below_set ?_ GE293.out))⟩
      ·rw [if_neg c16] at H
       exact absurd H (by simp)
     ·rw [if_neg c15] at H
      exact absurd H (by simp)
    ·rw [if_neg c13] at H
     exact absurd H (by simp)

end Go.Proofs.YtbdfmjgndeigpaaDoor.P
