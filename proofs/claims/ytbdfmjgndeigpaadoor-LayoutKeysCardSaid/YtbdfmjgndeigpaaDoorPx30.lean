-- by xprint (this session's program over the kit's printer)
import Derived.Test.YtbdfmjgndeigpaaDoorPx0
import Derived.Test.YtbdfmjgndeigpaaDoorPx20
import Derived.Test.YtbdfmjgndeigpaaDoorPx29
namespace Go.Proofs.YtbdfmjgndeigpaaDoor.P
open Go.RowKit Go.Proofs.YtbdfmjgndeigpaaDoorW.PrintWords Go.Proofs.YtbdfmjgndeigpaaDoorW.PrintLast Go.Proofs.YtbdfmjgndeigpaaDoorW.PrintMore
attribute [local go_sem] max2_int min2_int max_two min_two max_three min_three max_four min_four   -- for this text's walks alone
set_option linter.unusedVariables false
set_option linter.unusedSimpArgs false

/-! ### r21_Parse: function 24 -/
mutual
def r21_Parse.j0 : Nat → ByteArray → List (S91) → Bool → Option (Int × ByteArray × ByteArray × List Int × Int)
 | 0, _, _, _ => none
 | k + 1, x0, x4, x23 => if x23 = true then (some (0, (⟨#[]⟩ : ByteArray), (⟨#[]⟩ : ByteArray), ([] : List Int), 4)) else (r21_Parse.l0 k x0 x4 1 0 (⟨#[]⟩ : ByteArray) (⟨#[]⟩ : ByteArray))
def r21_Parse.l0 : Nat → ByteArray → List (S91) → Int → Int → ByteArray → ByteArray → Option (Int × ByteArray × ByteArray × List Int × Int)
 | 0, _, _, _, _, _, _ => none
 | k + 1, x0, x4, x7, x331000, x331001, x331002 => if x7 ≤ 6 then (if 0 < (x4.length : Int) then (if 0 ≤ (wrap64 (x7 - 1)) then (if (wrap64 (x7 - 1)) ≤ x7 then (if ((rd_T91 x4 0).f2).toList = ((⟨#[98, 111, 99, 117, 112, 113]⟩ : ByteArray).extract ((wrap64 (x7 - 1)) : Int).toNat (x7 : Int).toNat).toList then (r21_Parse.l0 k x0 x4 (wrap64 (x7 + 1)) x7 x331001 x331002) else (r21_Parse.l0 k x0 x4 (wrap64 (x7 + 1)) x331000 x331001 x331002)) else (none)) else (none)) else (none)) else (if 1 < (x4.length : Int) then (if x331000 > 1 then (r21_Parse.j2 k x0 x4 2 (decide ((x4.length : Int) > 2)) x331000 ((rd_T91 x4 1).f2) x331002) else (r21_Parse.j2 k x0 x4 2 false x331000 ((rd_T91 x4 1).f2) x331002)) else (none))
def r21_Parse.j2 : Nat → ByteArray → List (S91) → Int → Bool → Int → ByteArray → ByteArray → Option (Int × ByteArray × ByteArray × List Int × Int)
 | 0, _, _, _, _, _, _, _ => none
 | k + 1, x0, x4, x8, x52, x331000, x331001, x331002 => if x52 = true then (if 2 < (x4.length : Int) then (r21_Parse.j3 k x0 x4 3 x331000 x331001 ((rd_T91 x4 2).f2)) else (none)) else (r21_Parse.j3 k x0 x4 x8 x331000 x331001 x331002)
def r21_Parse.j3 : Nat → ByteArray → List (S91) → Int → Int → ByteArray → ByteArray → Option (Int × ByteArray × ByteArray × List Int × Int)
 | 0, _, _, _, _, _, _ => none
 | k + 1, x0, x4, x8, x331000, x331001, x331002 => r21_Parse.l1 k x0 x4 x8 x331000 x331001 x331002 ([] : List Int)
def r21_Parse.l1 : Nat → ByteArray → List (S91) → Int → Int → ByteArray → ByteArray → List Int → Option (Int × ByteArray × ByteArray × List Int × Int)
 | 0, _, _, _, _, _, _, _ => none
 | k + 1, x0, x4, x9, x331000, x331001, x331002, x331003 => if x9 < (x4.length : Int) then (if 0 ≤ x9 then (if x331003.length < 17592186044416 then (r21_Parse.l1 k x0 x4 (wrap64 (x9 + 1)) x331000 x331001 x331002 (x331003 ++ [(rd_T91 x4 x9).f1])) else (none)) else (none)) else ((r21_Key.f k x331000 x331001 x331002 x331003).bind fun bt338 => (if bt338.2 = 0 then (if bt338.1.toList = x0.toList then (some (x331000, x331001, x331002, x331003, 0)) else (some (0, (⟨#[]⟩ : ByteArray), (⟨#[]⟩ : ByteArray), ([] : List Int), 4))) else (some (0, (⟨#[]⟩ : ByteArray), (⟨#[]⟩ : ByteArray), ([] : List Int), 4))))
end
def r21_Parse.f (k : Nat) (a0 : ByteArray) : Option (Int × ByteArray × ByteArray × List Int × Int) := (r02_Decode.f k a0).bind fun bt326 => (if bt326.2 = 0 then (r21_Parse.j0 k a0 bt326.1 (decide ((bt326.1.length : Int) < 2))) else (r21_Parse.j0 k a0 bt326.1 true))
theorem r21_Parse.mono_l : ∀ k, (∀ y0 y1 y2, LeO (r21_Parse.j0 k y0 y1 y2) (r21_Parse.j0 (k + 1) y0 y1 y2)) ∧ (∀ y0 y1 y2 y3 y4 y5, LeO (r21_Parse.l0 k y0 y1 y2 y3 y4 y5) (r21_Parse.l0 (k + 1) y0 y1 y2 y3 y4 y5)) ∧ (∀ y0 y1 y2 y3 y4 y5 y6, LeO (r21_Parse.j2 k y0 y1 y2 y3 y4 y5 y6) (r21_Parse.j2 (k + 1) y0 y1 y2 y3 y4 y5 y6)) ∧ (∀ y0 y1 y2 y3 y4 y5, LeO (r21_Parse.j3 k y0 y1 y2 y3 y4 y5) (r21_Parse.j3 (k + 1) y0 y1 y2 y3 y4 y5)) ∧ (∀ y0 y1 y2 y3 y4 y5 y6, LeO (r21_Parse.l1 k y0 y1 y2 y3 y4 y5 y6) (r21_Parse.l1 (k + 1) y0 y1 y2 y3 y4 y5 y6))
 | 0 => ⟨fun _ _ _ r h => by simp [r21_Parse.j0] at h, fun _ _ _ _ _ _ r h => by simp [r21_Parse.l0] at h, fun _ _ _ _ _ _ _ r h => by simp [r21_Parse.j2] at h, fun _ _ _ _ _ _ r h => by simp [r21_Parse.j3] at h, fun _ _ _ _ _ _ _ r h => by simp [r21_Parse.l1] at h⟩
 | k + 1 => by
  obtain ⟨ih0, ih1, ih2, ih3, ih4⟩ := r21_Parse.mono_l k
  refine ⟨?_, ?_, ?_, ?_, ?_⟩
  ·intro y0 y1 y2
   unfold r21_Parse.j0
   repeat' first
   | (with_reducible exact ih0 _ _ _)
   | (with_reducible exact ih1 _ _ _ _ _ _)
   | (with_reducible exact ih2 _ _ _ _ _ _ _)
   | (with_reducible exact ih3 _ _ _ _ _ _)
   | (with_reducible exact ih4 _ _ _ _ _ _ _)
   | (with_reducible exact r02_Decode.mono _ _)
   | (with_reducible exact r21_Key.mono _ _ _ _ _)
   | (with_reducible exact LeO.refl _)
   | (with_reducible exact LeO.none _)
   | (with_reducible refine LeO.ite ?_ ?_)
   | (with_reducible refine LeO.bind ?_ (fun _ => ?_))
   | exact ih0 _ _ _
   | exact ih1 _ _ _ _ _ _
   | exact ih2 _ _ _ _ _ _ _
   | exact ih3 _ _ _ _ _ _
   | exact ih4 _ _ _ _ _ _ _
   | exact r02_Decode.mono _ _
   | exact r21_Key.mono _ _ _ _ _
   | exact LeO.none _
   | refine LeO.ite ?_ ?_
   | refine LeO.bind ?_ (fun _ => ?_)
  ·intro y0 y1 y2 y3 y4 y5
   unfold r21_Parse.l0
   repeat' first
   | (with_reducible exact ih0 _ _ _)
   | (with_reducible exact ih1 _ _ _ _ _ _)
   | (with_reducible exact ih2 _ _ _ _ _ _ _)
   | (with_reducible exact ih3 _ _ _ _ _ _)
   | (with_reducible exact ih4 _ _ _ _ _ _ _)
   | (with_reducible exact r02_Decode.mono _ _)
   | (with_reducible exact r21_Key.mono _ _ _ _ _)
   | (with_reducible exact LeO.refl _)
   | (with_reducible exact LeO.none _)
   | (with_reducible refine LeO.ite ?_ ?_)
   | (with_reducible refine LeO.bind ?_ (fun _ => ?_))
   | exact ih0 _ _ _
   | exact ih1 _ _ _ _ _ _
   | exact ih2 _ _ _ _ _ _ _
   | exact ih3 _ _ _ _ _ _
   | exact ih4 _ _ _ _ _ _ _
   | exact r02_Decode.mono _ _
   | exact r21_Key.mono _ _ _ _ _
   | exact LeO.none _
   | refine LeO.ite ?_ ?_
   | refine LeO.bind ?_ (fun _ => ?_)
  ·intro y0 y1 y2 y3 y4 y5 y6
   unfold r21_Parse.j2
   repeat' first
   | (with_reducible exact ih0 _ _ _)
   | (with_reducible exact ih1 _ _ _ _ _ _)
   | (with_reducible exact ih2 _ _ _ _ _ _ _)
   | (with_reducible exact ih3 _ _ _ _ _ _)
   | (with_reducible exact ih4 _ _ _ _ _ _ _)
   | (with_reducible exact r02_Decode.mono _ _)
   | (with_reducible exact r21_Key.mono _ _ _ _ _)
   | (with_reducible exact LeO.refl _)
   | (with_reducible exact LeO.none _)
   | (with_reducible refine LeO.ite ?_ ?_)
   | (with_reducible refine LeO.bind ?_ (fun _ => ?_))
   | exact ih0 _ _ _
   | exact ih1 _ _ _ _ _ _
   | exact ih2 _ _ _ _ _ _ _
   | exact ih3 _ _ _ _ _ _
   | exact ih4 _ _ _ _ _ _ _
   | exact r02_Decode.mono _ _
   | exact r21_Key.mono _ _ _ _ _
   | exact LeO.none _
   | refine LeO.ite ?_ ?_
   | refine LeO.bind ?_ (fun _ => ?_)
  ·intro y0 y1 y2 y3 y4 y5
   unfold r21_Parse.j3
   repeat' first
   | (with_reducible exact ih0 _ _ _)
   | (with_reducible exact ih1 _ _ _ _ _ _)
   | (with_reducible exact ih2 _ _ _ _ _ _ _)
   | (with_reducible exact ih3 _ _ _ _ _ _)
   | (with_reducible exact ih4 _ _ _ _ _ _ _)
   | (with_reducible exact r02_Decode.mono _ _)
   | (with_reducible exact r21_Key.mono _ _ _ _ _)
   | (with_reducible exact LeO.refl _)
   | (with_reducible exact LeO.none _)
   | (with_reducible refine LeO.ite ?_ ?_)
   | (with_reducible refine LeO.bind ?_ (fun _ => ?_))
   | exact ih0 _ _ _
   | exact ih1 _ _ _ _ _ _
   | exact ih2 _ _ _ _ _ _ _
   | exact ih3 _ _ _ _ _ _
   | exact ih4 _ _ _ _ _ _ _
   | exact r02_Decode.mono _ _
   | exact r21_Key.mono _ _ _ _ _
   | exact LeO.none _
   | refine LeO.ite ?_ ?_
   | refine LeO.bind ?_ (fun _ => ?_)
  ·intro y0 y1 y2 y3 y4 y5 y6
   unfold r21_Parse.l1
   repeat' first
   | (with_reducible exact ih0 _ _ _)
   | (with_reducible exact ih1 _ _ _ _ _ _)
   | (with_reducible exact ih2 _ _ _ _ _ _ _)
   | (with_reducible exact ih3 _ _ _ _ _ _)
   | (with_reducible exact ih4 _ _ _ _ _ _ _)
   | (with_reducible exact r02_Decode.mono _ _)
   | (with_reducible exact r21_Key.mono _ _ _ _ _)
   | (with_reducible exact LeO.refl _)
   | (with_reducible exact LeO.none _)
   | (with_reducible refine LeO.ite ?_ ?_)
   | (with_reducible refine LeO.bind ?_ (fun _ => ?_))
   | exact ih0 _ _ _
   | exact ih1 _ _ _ _ _ _
   | exact ih2 _ _ _ _ _ _ _
   | exact ih3 _ _ _ _ _ _
   | exact ih4 _ _ _ _ _ _ _
   | exact r02_Decode.mono _ _
   | exact r21_Key.mono _ _ _ _ _
   | exact LeO.none _
   | refine LeO.ite ?_ ?_
   | refine LeO.bind ?_ (fun _ => ?_)
theorem r21_Parse.mono : ∀ a0 k, LeO (r21_Parse.f k a0) (r21_Parse.f (k + 1) a0) := by
 intro a0 k
 obtain ⟨ih0, ih1, ih2, ih3, ih4⟩ := r21_Parse.mono_l k
 unfold r21_Parse.f
 repeat' first
   | (with_reducible exact ih0 _ _ _)
   | (with_reducible exact ih1 _ _ _ _ _ _)
   | (with_reducible exact ih2 _ _ _ _ _ _ _)
   | (with_reducible exact ih3 _ _ _ _ _ _)
   | (with_reducible exact ih4 _ _ _ _ _ _ _)
   | (with_reducible exact r02_Decode.mono _ _)
   | (with_reducible exact r21_Key.mono _ _ _ _ _)
   | (with_reducible exact LeO.refl _)
   | (with_reducible exact LeO.none _)
   | (with_reducible refine LeO.ite ?_ ?_)
   | (with_reducible refine LeO.bind ?_ (fun _ => ?_))
   | exact ih0 _ _ _
   | exact ih1 _ _ _ _ _ _
   | exact ih2 _ _ _ _ _ _ _
   | exact ih3 _ _ _ _ _ _
   | exact ih4 _ _ _ _ _ _ _
   | exact r02_Decode.mono _ _
   | exact r21_Key.mono _ _ _ _ _
   | exact LeO.none _
   | refine LeO.ite ?_ ?_
   | refine LeO.bind ?_ (fun _ => ?_)
def r21_Parse.T8 : Bool × List (List Nat × List Nat) := (true, [([], []), ([0], [0]), ([1], [1]), ([2], [2]), ([], []), ([4], [4]), ([], []), ([5, 6], [5, 6]), ([3, 7], [3, 7])])
def r21_Parse.B8 : List Nat := [0, 1, 3, 7, 0, 16, 0, 112, 255]
theorem r21_Parse.tab8 : rtab .any (opsOf Tryd.f24 8) = r21_Parse.T8 := by kernel_rfl
theorem r21_Parse.bits8 : waitsOk r21_Parse.T8.2 r21_Parse.B8 = true := by kernel_rfl
def r21_Parse.T17 : Bool × List (List Nat × List Nat) := (true, [([], []), ([0], [0]), ([], []), ([], []), ([2, 3], [2, 3]), ([4], [4]), ([5], [5]), ([6], [6]), ([1, 7], [1, 7]), ([0, 1, 2, 3, 4, 5, 6, 7, 8], []), ([9, 8, 8, 0, 1, 2, 3, 4, 5, 6, 7, 8], [8, 9])])
def r21_Parse.B17 : List Nat := [0, 1, 0, 0, 12, 28, 60, 124, 255, 511, 1023]
theorem r21_Parse.tab17 : rtab .any (opsOf Tryd.f24 17) = r21_Parse.T17 := by kernel_rfl
theorem r21_Parse.bits17 : waitsOk r21_Parse.T17.2 r21_Parse.B17 = true := by kernel_rfl
set_option maxHeartbeats 8000000 in
set_option maxRecDepth 100000 in
theorem r21_Parse.calls (k : Nat) (a0 : ByteArray) (r1 : Int) (r2 : ByteArray) (r3 : ByteArray) (r4 : List Int) (r5 : Int) (w : World) (h : r21_Parse.f k a0 = some (r1, r2, r3, r4, r5)) :
  Calls Tryd.prog 24 #[.string a0] w fun e w' => ∃ v3_ : Value, e = .returned (.tuple #[.agg #[.int .i64 r1, .string r2, .string r3, v3_], .int .i64 r5]) ∧ Kd.R (Kd.int .i64) 3 w' w.heap.size (fun _ => True) v3_ r4 ∧ Below w.heap.size w w' := by
 have hu25 := Tryd.underlying25
 have HB := Aside0.mk (Below.refl w.heap.size w)
 have H : ((r02_Decode.f k a0).bind fun bt326 => (if bt326.2 = 0 then (r21_Parse.j0 k a0 bt326.1 (decide ((bt326.1.length : Int) < 2))) else (r21_Parse.j0 k a0 bt326.1 true))) = some (r1, r2, r3, r4, r5) := h
 clear h
 replace H := Option.bind_eq_some_iff.mp H
 obtain ⟨⟨t326, t327⟩, A20, H⟩ := H
 replace H : (if t327 = 0 then (r21_Parse.j0 k a0 t326 (decide ((t326.length : Int) < 2))) else (r21_Parse.j0 k a0 t326 true)) = some (r1, r2, r3, r4, r5) := H
 have A2 := Aside0.mk A20
 clear A20
 have HC3 := Aside0.mk H
 clear H
 go_enter Tryd.func24, Tryd.ntmps24
 go_upto_region 2 with (first | ((with_reducible refine gate_dst (N := 2) rfl ?_); (try (refine gate_guard (by rfl) ?_; dsimp only)); refine box_event ?hg (N := 2) ?hd (cs := #[.int .i64 0, .string (⟨#[]⟩ : ByteArray), .string (⟨#[]⟩ : ByteArray), .slice none 0 0]) (t := 25) ?hr ?_; (case hd => rfl); (case hg => rfl); (case hr => (go_simp; done)); intro gb325 hg w4 hbox hb; have n0_ := Aside0.mk (below_step (by repeat ((with_reducible exact HB.out))) hb); have n1_ := Aside0.mk (hbox); have n2_ := Aside0.mk ((by rw [hg]; exact (below_size (by repeat ((with_reducible exact HB.out)))) : w.heap.size ≤ gb325)); have n3_ := Aside0.mk ((by rw [hg]; exact (below_size (by repeat ((with_reducible exact HB.out)))) : w.heap.size ≤ gb325)); clear HB; have HB := n0_; have BK325 := n1_; have GW325 := n2_; have GE325 := n3_; clear n0_ n1_ n2_ n3_; clear hb hbox hg) | ((with_reducible refine gate_callee (f := 54) rfl ?_); refine goesL_ (some 14) rfl rfl Tryd.func54 (by kernel_rfl) rfl #[.string a0] rfl (by (try simp only [List.map_toArray, List.map_cons, List.map_nil]); rfl) ?_; (with_reducible refine (r02_Decode.calls k a0 t326 t327 _ A2.out).mono ?_); rintro e w5 ⟨v328, rfl, ho0, hb⟩; refine ⟨_, rfl, ?_⟩; have n0_ := Aside0.mk (Kd.R_lower ho0 (below_size (by repeat ((with_reducible exact HB.out))))); have n1_ := Aside0.mk (blk_below (g := gb325) (o := .cells #[.int .i64 0, .string (⟨#[]⟩ : ByteArray), .string (⟨#[]⟩ : ByteArray), .slice none 0 0] 25 (0, 0)) (by (with_reducible repeat (refine blk_drew ?_)); exact BK325.out) hb); have n2_ := Aside0.mk (below_step (by repeat ((with_reducible exact HB.out))) hb); clear BK325; clear HB; have HO329 := n0_; have BK325 := n1_; have HB := n2_; clear n0_ n1_ n2_; (try clear hb); (try clear hb2); (try clear hk); (try clear hi); (try clear ho0)))
 (try simp only [Act.put, List.setIfInBounds_toArray, List.set_cons_zero, List.set_cons_succ])
 go_cut [23] (fun v23 wc => ∃ (kq : Nat) (x23_2 : Bool), v23 = .bool x23_2 ∧ Aside0 (r21_Parse.j0 kq a0 t326 x23_2 = some (r1, r2, r3, r4, r5)) ∧ Aside0 (kq ≤ k) ∧ Aside0 (Kd.R k91 91 wc w.heap.size (fun _ => True) v328 t326) ∧ Aside0 (wc.heap[gb325]? = some (.cells #[.int .i64 0, .string (⟨#[]⟩ : ByteArray), .string (⟨#[]⟩ : ByteArray), (.slice none 0 0)] 25 (0, 0))) ∧ Aside0 (Below w.heap.size w wc))
 case first =>
  have H := HC3.out
  clear HC3
  by_cases c6 : t327 = 0
  ·rw [if_pos c6] at H
   have c6b0 : (t327 == 0) = true := beq_iff_eq.mpr c6
   have c6b1 : (t327 != 0) = false := bne_eq_false_iff_eq.mpr c6
   clear c6
   (skip)
   have H' := Aside0.mk H
   clear H
   obtain ⟨Ao7, co7, eo7⟩ := Kd.R_slice HO329.out
   subst eo7
   go_wp2
   go_meet
   case rel => exact ⟨_, (decide ((t326.length : Int) < 2)), (by rfl), H', ⟨by omega⟩, ⟨by (with_reducible repeat (apply Kd.R_drew)); exact HO329.out⟩, ⟨by (with_reducible repeat (refine blk_drew ?_)); exact BK325.out⟩, ⟨by repeat ((with_reducible exact HB.out))⟩⟩
  ·rw [if_neg c6] at H
   have c6b0 : (t327 == 0) = false := beq_eq_false_iff_ne.mpr c6
   have c6b1 : (t327 != 0) = true := bne_iff_ne.mpr c6
   (skip)
   have H' := Aside0.mk H
   clear H
   go_wp2
   go_meet
   case rel => exact ⟨_, (true), (by rfl), H', ⟨by omega⟩, ⟨by (with_reducible repeat (apply Kd.R_drew)); exact HO329.out⟩, ⟨by (with_reducible repeat (refine blk_drew ?_)); exact BK325.out⟩, ⟨by repeat ((with_reducible exact HB.out))⟩⟩
 case rest =>
  clear HC3
  try clear c2
  try clear p2
  try clear c5
  try clear c6
  try clear c6b0
  try clear c6b1
  obtain ⟨kq, x23_2, rfl, HA, HJ2, HO_4, BK325, HB⟩ := hcut
  cases kq with
  | zero => exact absurd HA.out (by simp [r21_Parse.j0])
  | succ kj2 =>
   have H := HA.out
   clear HA
   simp only [r21_Parse.j0] at H
   by_cases c8 : x23_2 = true
   ·subst c8
    have H1 : (some (0, (⟨#[]⟩ : ByteArray), (⟨#[]⟩ : ByteArray), ([] : List Int), 4)) = some (r1, r2, r3, r4, r5) := by rw [if_pos rfl] at H; exact H
    clear H
    have H := H1
    clear H1
    simp only [Option.some.injEq, Prod.mk.injEq] at H
    obtain ⟨rfl, rfl, rfl, rfl, rfl⟩ := H
    have hcz9_0 : wc.cell? ⟨gb325, 0, none⟩ = some (.int .i64 0) := (blk_cell BK325.out 0).trans rfl
    have hcz9_1 : wc.cell? ⟨gb325, 1, none⟩ = some (.string (⟨#[]⟩ : ByteArray)) := (blk_cell BK325.out 1).trans rfl
    have hcz9_2 : wc.cell? ⟨gb325, 2, none⟩ = some (.string (⟨#[]⟩ : ByteArray)) := (blk_cell BK325.out 2).trans rfl
    have hcz9_3 : wc.cell? ⟨gb325, 3, none⟩ = some (.slice none 0 0) := (blk_cell BK325.out 3).trans rfl
    have hfz9_0 := blk_frozen BK325.out 0
    have hfz9_1 := blk_frozen BK325.out 1
    have hfz9_2 := blk_frozen BK325.out 2
    have hfz9_3 := blk_frozen BK325.out 3
    go_wp2
    refine bodyPost_ret (results_ct rfl _ _ gb325 25 #[.int .i64 0, .string (⟨#[]⟩ : ByteArray), .string (⟨#[]⟩ : ByteArray), .slice none 0 0] (0, 0) _ rfl (by (with_reducible repeat (refine blk_drew ?_)); refine blk_put (cs := #[.int .i64 0, .string (⟨#[]⟩ : ByteArray), .string (⟨#[]⟩ : ByteArray), .slice none 0 0]) ?_ 3 _ rfl; (with_reducible repeat (refine blk_drew ?_)); refine blk_put (cs := #[.int .i64 0, .string (⟨#[]⟩ : ByteArray), .string (⟨#[]⟩ : ByteArray), .slice none 0 0]) ?_ 2 _ rfl; (with_reducible repeat (refine blk_drew ?_)); refine blk_put (cs := #[.int .i64 0, .string (⟨#[]⟩ : ByteArray), .string (⟨#[]⟩ : ByteArray), .slice none 0 0]) ?_ 1 _ rfl; (with_reducible repeat (refine blk_drew ?_)); refine blk_put (cs := #[.int .i64 0, .string (⟨#[]⟩ : ByteArray), .string (⟨#[]⟩ : ByteArray), .slice none 0 0]) ?_ 0 _ rfl; (with_reducible repeat (refine blk_drew ?_)); exact BK325.out) Tryd.underlying25 rfl (by kernel_rfl)) rfl ?_
    exact ⟨_, by rfl, by exact Kd.R_nil _ _ _ _ _, by repeat ((with_reducible first | exact HB.out | refine below_set ?_ GE325.out))⟩
   ·replace c8 := Bool.eq_false_iff.mpr c8
    subst c8
    have H1 : (r21_Parse.l0 kj2 a0 t326 1 0 (⟨#[]⟩ : ByteArray) (⟨#[]⟩ : ByteArray)) = some (r1, r2, r3, r4, r5) := by rw [if_neg (show ¬ (false = true) by decide)] at H; exact H
    clear H
    have H := H1
    clear H1
    have H' := Aside0.mk H
    clear H
    go_wp2_with (((with_reducible refine gate_dst (N := 6) rfl ?_); (try (refine gate_guard (by rfl) ?_; dsimp only)); refine box_event ?hg (N := 6) ?hd (cs := #[.int .i64 0, .string (⟨#[]⟩ : ByteArray), .string (⟨#[]⟩ : ByteArray), .slice none 0 0]) (t := 25) ?hr ?_; (case hd => rfl); (case hg => rfl); (case hr => (go_simp; done)); intro gb330 hg w10 hbox hb; have n0_ := Aside0.mk (Kd.R_below (by (with_reducible repeat (apply Kd.R_drew)); exact HO_4.out) hb); have n1_ := Aside0.mk (blk_below (g := gb325) (o := .cells #[.int .i64 0, .string (⟨#[]⟩ : ByteArray), .string (⟨#[]⟩ : ByteArray), .slice none 0 0] 25 (0, 0)) (by (with_reducible repeat (refine blk_drew ?_)); exact BK325.out) hb); have n2_ := Aside0.mk (below_step (by repeat ((with_reducible exact HB.out))) hb); have n3_ := Aside0.mk (hbox); have n4_ := Aside0.mk ((by rw [hg]; exact (below_size (by repeat ((with_reducible exact HB.out)))) : w.heap.size ≤ gb330)); have n5_ := Aside0.mk ((by rw [hg]; exact (below_size (by repeat ((with_reducible exact HB.out)))) : w.heap.size ≤ gb330)); have n6_ := Aside0.mk ((by rw [hg]; exact Nat.ne_of_lt (blk_lt (g := gb325) (o := .cells #[.int .i64 0, .string (⟨#[]⟩ : ByteArray), .string (⟨#[]⟩ : ByteArray), .slice none 0 0] 25 (0, 0)) (by (with_reducible repeat (refine blk_drew ?_)); exact BK325.out)) : gb325 ≠ gb330)); have n7_ := Aside0.mk ((by rw [hg]; exact Nat.ne_of_gt (blk_lt (g := gb325) (o := .cells #[.int .i64 0, .string (⟨#[]⟩ : ByteArray), .string (⟨#[]⟩ : ByteArray), .slice none 0 0] 25 (0, 0)) (by (with_reducible repeat (refine blk_drew ?_)); exact BK325.out)) : gb330 ≠ gb325)); clear HO_4; clear BK325; clear HB; have HO_4 := n0_; have BK325 := n1_; have HB := n2_; have BK330 := n3_; have GW330 := n4_; have GE330 := n5_; have NB325_330 := n6_; have NB330_325 := n7_; clear n0_ n1_ n2_ n3_ n4_ n5_ n6_ n7_; clear hb hbox hg))
    go_loopg [7] kj2 (fun kq v7 w' => ∃ (x7_2 : Int) (x331000_2 : Int), v7 = .int .i64 x7_2 ∧ Aside0 (r21_Parse.l0 kq a0 t326 x7_2 x331000_2 (⟨#[]⟩ : ByteArray) (⟨#[]⟩ : ByteArray) = some (r1, r2, r3, r4, r5)) ∧ Aside0 (kq ≤ kj2) ∧ Aside0 (Kd.R k91 91 w' w.heap.size (fun _ => True) v328 t326) ∧ Aside0 (w'.heap[gb325]? = some (.cells #[.int .i64 0, .string (⟨#[]⟩ : ByteArray), .string (⟨#[]⟩ : ByteArray), (.slice none 0 0)] 25 (0, 0))) ∧ Aside0 (w'.heap[gb330]? = some (.cells #[.int .i64 x331000_2, .string (⟨#[]⟩ : ByteArray), .string (⟨#[]⟩ : ByteArray), (.slice none 0 0)] 25 (0, 0))) ∧ Aside0 (Below w.heap.size w w'))
    case atStart => exact ⟨(1), (0), (by rfl), H', ⟨Nat.le_refl _⟩, ⟨by (with_reducible repeat (apply Kd.R_drew)); exact HO_4.out⟩, ⟨by (with_reducible repeat (refine blk_drew ?_)); exact BK325.out⟩, ⟨by (with_reducible repeat (refine blk_drew ?_)); exact BK330.out⟩, ⟨by repeat ((with_reducible exact HB.out))⟩⟩
    case round =>
     clear H'
     try clear c2
     try clear p2
     try clear c5
     try clear c6
     try clear c6b0
     try clear c6b1
     try clear c8
     try clear hcz9_0
     try clear hcz9_1
     try clear hcz9_2
     try clear hcz9_3
     try clear hfz9_0
     try clear hfz9_1
     try clear hfz9_2
     try clear hfz9_3
     try clear p2
     obtain ⟨x7_2, x331000_2, rfl, HA, HK2, HO_4, BK325, BK330, HB⟩ := hrel
     cases gk with
     | zero => exact absurd HA.out (by simp [r21_Parse.l0])
     | succ k2 =>
      have H := HA.out
      clear HA
      simp only [r21_Parse.l0] at H
      by_cases c11 : x7_2 ≤ 6
      ·rw [if_pos c11] at H
       have c11b0 : decide (x7_2 ≤ 6) = true := decide_eq_true c11
       clear c11
       by_cases c12 : 0 < (t326.length : Int)
       ·rw [if_pos c12] at H
        have c12b0 : decide (0 < (t326.length : Int)) = true := decide_eq_true c12
        have c12b1 : decide (0 < t326.length) = true := decide_eq_true (by omega)
        clear c12
        obtain ⟨ji13, hji13⟩ : ∃ j_ : Int, (wrap64 (x7_2 - 1)) = j_ := ⟨_, rfl⟩
        replace H : (if 0 ≤ (ji13) then (if (ji13) ≤ x7_2 then (if ((rd_T91 t326 0).f2).toList = ((⟨#[98, 111, 99, 117, 112, 113]⟩ : ByteArray).extract ((ji13) : Int).toNat (x7_2 : Int).toNat).toList then (r21_Parse.l0 k2 a0 t326 (wrap64 (x7_2 + 1)) x7_2 (⟨#[]⟩ : ByteArray) (⟨#[]⟩ : ByteArray)) else (r21_Parse.l0 k2 a0 t326 (wrap64 (x7_2 + 1)) x331000_2 (⟨#[]⟩ : ByteArray) (⟨#[]⟩ : ByteArray))) else (none)) else (none)) = some (r1, r2, r3, r4, r5) := by (rw [hji13] at H; exact H)
        have hji13w : (IntKind.i64.wrap (x7_2 - 1)) = ji13 := (i64_w _).trans hji13
        by_cases c14 : 0 ≤ (ji13)
        ·rw [if_pos c14] at H
         have c14b0 := eq_true c14
         have c14b1 : decide (0 ≤ (ji13)) = true := decide_eq_true c14
         clear c14
         by_cases c15 : (ji13) ≤ x7_2
         ·rw [if_pos c15] at H
          have c15b0 := eq_true c15
          have c15b1 : decide ((ji13) ≤ x7_2) = true := decide_eq_true c15
          clear c15
          have c16b0 := eq_true (of_decide_eq_true (by (with_reducible assumption)) : x7_2 ≤ 6)
          by_cases c17 : ((rd_T91 t326 0).f2).toList = ((⟨#[98, 111, 99, 117, 112, 113]⟩ : ByteArray).extract ((ji13) : Int).toNat (x7_2 : Int).toNat).toList
          ·rw [if_pos c17] at H
           have c17b0 : (((rd_T91 t326 0).f2).toList == ((⟨#[98, 111, 99, 117, 112, 113]⟩ : ByteArray).extract ((ji13) : Int).toNat (x7_2 : Int).toNat).toList) = true := beq_iff_eq.mpr c17
           have c17b1 : (((rd_T91 t326 0).f2).toList != ((⟨#[98, 111, 99, 117, 112, 113]⟩ : ByteArray).extract ((ji13) : Int).toNat (x7_2 : Int).toNat).toList) = false := bne_eq_false_iff_eq.mpr c17
           clear c17
           have H' := Aside0.mk H
           clear H
           try go_wp2
           have n0_ := Aside0.mk (Kd.R_drew HO_4.out)
           have n1_ := Aside0.mk (blk_drew BK325.out)
           have n2_ := Aside0.mk (blk_drew BK330.out)
           have n3_ := Aside0.mk (below_drew1 HB.out)
           clear HO_4
           clear BK325
           clear BK330
           clear HB
           have HO_4 := n0_
           have BK325 := n1_
           have BK330 := n2_
           have HB := n3_
           clear n0_ n1_ n2_ n3_
           obtain ⟨Ao19, co19, eo19⟩ := Kd.R_slice HO_4.out
           (subst eo19)
           have p331 : 0 ≤ (0 : Int) := (by omega)
           have q331 : 0 < (t326.length : Int) := of_decide_eq_true (by (with_reducible assumption))
           obtain ⟨ad331, e331, hx331_0, hx331_1, hx331_2⟩ := at_T91 (Kd.R_reads' HO_4.out).2.2 0 p331 q331
           cases e331
           have qi331 : (0 < t326.length) = True := eq_true (by omega)
           (try rw [show ((0 : Int)).toNat = 0 from rfl] at hx331_0)
           (try rw [show 0 * 3 = 0 from rfl] at hx331_0)
           (try rw [Addr.add_zero'] at hx331_0)
           (try rw [show ((0 : Int)).toNat = 0 from rfl] at hx331_1)
           (try rw [show 0 * 3 = 0 from rfl] at hx331_1)
           (try rw [Addr.add_zero'] at hx331_1)
           (try rw [show ((0 : Int)).toNat = 0 from rfl] at hx331_2)
           (try rw [show 0 * 3 = 0 from rfl] at hx331_2)
           (try rw [Addr.add_zero'] at hx331_2)
           replace p331 := eq_true p331
           replace q331 := eq_true q331
           refine start_ (n := 9) (S := fun w' => w'.cell? ad331 = some (.int .i64 ((rd_T91 t326 0).f0)) ∧ w'.cell? ⟨ad331.block, ad331.off + 1, none⟩ = some (.int .i64 ((rd_T91 t326 0).f1)) ∧ w'.cell? ⟨ad331.block, ad331.off + 2, none⟩ = some (.string ((rd_T91 t326 0).f2))) (ds := []) #[false, false, false, false, false, false, false, false, false] (by kernel_rfl) rfl rfl ⟨hx331_0, hx331_1, hx331_2⟩ (fun hHeld => ?_); refine with_tabW r21_Parse.tab8 r21_Parse.bits8 (fun HT_ HW_ => ?_)
           generalize wr.drew = w18 at HO_4 BK325 BK330 HB hx331_0 hx331_1 hx331_2 hHeld ⊢
           refine pure_ (i := 0) (N := some 29) (v := ?_) (a' := ?_) #[true, false, false, false, false, false, false, false, false] rfl rfl (any_of HT_.out (by kernel_rfl)) (fun _ _ _ h => h) (Or.inl ⟨by rfl, ?_⟩) ?_ ?_
           rotate_left
           ·intro w'
            go_simp
            with_reducible rfl
           rotate_left
           ·simp only [Act.put, List.setIfInBounds_toArray, List.set_cons_zero, List.set_cons_succ, i64_w, i32_w]
            rfl
           refine pure_ (i := 1) (N := some 30) (v := ?_) (a' := ?_) #[true, true, false, false, false, false, false, false, false] rfl rfl (any_of HT_.out (by kernel_rfl)) (fun _ _ _ h => h) (Or.inl ⟨by rfl, ?_⟩) ?_ ?_
           rotate_left
           ·intro w'
            go_simp
            with_reducible rfl
           rotate_left
           ·simp only [Act.put, List.setIfInBounds_toArray, List.set_cons_zero, List.set_cons_succ, i64_w, i32_w]
            rfl
           refine pure_ (i := 2) (N := some 31) (v := ?_) (a' := ?_) #[true, true, true, false, false, false, false, false, false] rfl rfl (any_of HT_.out (by kernel_rfl)) (fun _ _ _ h => h) (Or.inl ⟨by rfl, ?_⟩) ?_ ?_
           rotate_left
           ·intro w'
            go_simp
            with_reducible rfl
           rotate_left
           ·simp only [Act.put, List.setIfInBounds_toArray, List.set_cons_zero, List.set_cons_succ, i64_w, i32_w]
            rfl
           refine pure_ (i := 4) (N := some 33) (v := ?_) (a' := ?_) #[true, true, true, false, true, false, false, false, false] rfl rfl (any_of HT_.out (by kernel_rfl)) (fun _ _ _ h => h) (Or.inl ⟨by rfl, ?_⟩) ?_ ?_
           rotate_left
           ·intro w'
            go_simp
            with_reducible rfl
           rotate_left
           ·simp only [Act.put, List.setIfInBounds_toArray, List.set_cons_zero, List.set_cons_succ, i64_w, i32_w]
            rfl
           refine pure_ (i := 5) (N := some 34) (v := ?_) (a' := ?_) #[true, true, true, false, true, true, false, false, false] rfl rfl (any_of HT_.out (by kernel_rfl)) (fun _ _ _ h => h) (Or.inl ⟨by rfl, ?_⟩) ?_ ?_
           rotate_left
           ·intro w'
            go_simp
            with_reducible rfl
           rotate_left
           ·simp only [Act.put, List.setIfInBounds_toArray, List.set_cons_zero, List.set_cons_succ, i64_w, i32_w]
            rfl
           refine pure_ (i := 6) (N := some 35) (v := ?_) (a' := ?_) #[true, true, true, false, true, true, true, false, false] rfl rfl (any_of HT_.out (by kernel_rfl)) (fun _ _ _ h => h) (Or.inl ⟨by rfl, ?_⟩) ?_ ?_
           rotate_left
           ·intro w'
            go_simp
            with_reducible rfl
           rotate_left
           ·simp only [Act.put, List.setIfInBounds_toArray, List.set_cons_zero, List.set_cons_succ, i64_w, i32_w]
            rfl
           refine pure_ (i := 7) (N := some 36) (v := ?_) (a' := ?_) #[true, true, true, false, true, true, true, true, false] rfl rfl (any_of HT_.out (by kernel_rfl)) (fun _ _ _ h => h) (Or.inl ⟨by rfl, ?_⟩) ?_ ?_
           rotate_left
           ·intro w'
            go_simp
            with_reducible rfl
           rotate_left
           ·simp only [Act.put, List.setIfInBounds_toArray, List.set_cons_zero, List.set_cons_succ, i64_w, i32_w]
            rfl
           refine take_ (i := 3) (N := some 32) (v := ?_) (a' := ?_) #[true, true, true, true, true, true, true, true, false] rfl rfl (take_ofW HT_.out HW_.out (by kernel_rfl)) (fun _ _ _ h => h) (Or.inl ⟨by rfl, ?_⟩) hHeld ?_ ?_
           rotate_left
           ·rintro w' ⟨s0, s1, s2⟩
            go_simp
            with_reducible rfl
           rotate_left
           ·simp only [Act.put, List.setIfInBounds_toArray, List.set_cons_zero, List.set_cons_succ, i64_w, i32_w]
            rfl
           refine pure_ (i := 8) (N := some 37) (v := ?_) (a' := ?_) #[true, true, true, true, true, true, true, true, true] rfl rfl (any_of HT_.out (by kernel_rfl)) (fun _ _ _ h => h) (Or.inl ⟨by rfl, ?_⟩) ?_ ?_
           rotate_left
           ·intro w'
            go_simp
            with_reducible rfl
           rotate_left
           ·simp only [Act.put, List.setIfInBounds_toArray, List.set_cons_zero, List.set_cons_succ, i64_w, i32_w]
            rfl
           refine done_ (done_of HT_.out (by kernel_rfl)) ?_
           have hnb20 := NB330_325.out
           have hnc20 := NB325_330.out
           have hcz21_0 : w18.cell? ⟨gb330, 0, none⟩ = some (.int .i64 x331000_2) := (blk_cell BK330.out 0).trans rfl
           have hcz21_1 : w18.cell? ⟨gb330, 1, none⟩ = some (.string (⟨#[]⟩ : ByteArray)) := (blk_cell BK330.out 1).trans rfl
           have hcz21_2 : w18.cell? ⟨gb330, 2, none⟩ = some (.string (⟨#[]⟩ : ByteArray)) := (blk_cell BK330.out 2).trans rfl
           have hcz21_3 : w18.cell? ⟨gb330, 3, none⟩ = some (.slice none 0 0) := (blk_cell BK330.out 3).trans rfl
           have hfz21_0 := blk_frozen BK330.out 0
           have hfz21_1 := blk_frozen BK330.out 1
           have hfz21_2 := blk_frozen BK330.out 2
           have hfz21_3 := blk_frozen BK330.out 3
           try go_wp2
           go_roundg k2
           case measure => have := HJ2.out; have := HK2.out; omega
           case rel => exact ⟨(wrap64 (x7_2 + 1)), (x7_2), (by rfl), H', ⟨by have := HJ2.out; have := HK2.out; omega⟩, ⟨by (with_reducible repeat (apply Kd.R_drew)); exact Kd.R_mono (Kd.R_far (p := ⟨gb330, 0, none⟩) (Kd.R_types HO_4.out BK330.out (by decide)) (fun _ hk => hk.2) (.int .i64 x7_2)) (fun _ hk => trivial)⟩, ⟨by (with_reducible repeat (refine blk_drew ?_)); refine blk_far ?_ NB325_330.out _; (with_reducible repeat (refine blk_drew ?_)); exact BK325.out⟩, ⟨by (with_reducible repeat (refine blk_drew ?_)); refine blk_put (cs := #[.int .i64 x331000_2, .string (⟨#[]⟩ : ByteArray), .string (⟨#[]⟩ : ByteArray), .slice none 0 0]) ?_ 0 _ rfl; (with_reducible repeat (refine blk_drew ?_)); exact BK330.out⟩, ⟨by repeat ((with_reducible first | exact HB.out | refine below_set ?_ GE330.out))⟩⟩
          ·rw [if_neg c17] at H
           have c17b0 : (((rd_T91 t326 0).f2).toList == ((⟨#[98, 111, 99, 117, 112, 113]⟩ : ByteArray).extract ((ji13) : Int).toNat (x7_2 : Int).toNat).toList) = false := beq_eq_false_iff_ne.mpr c17
           have c17b1 : (((rd_T91 t326 0).f2).toList != ((⟨#[98, 111, 99, 117, 112, 113]⟩ : ByteArray).extract ((ji13) : Int).toNat (x7_2 : Int).toNat).toList) = true := bne_iff_ne.mpr c17
           have H' := Aside0.mk H
           clear H
           try go_wp2
           have n0_ := Aside0.mk (Kd.R_drew HO_4.out)
           have n1_ := Aside0.mk (blk_drew BK325.out)
           have n2_ := Aside0.mk (blk_drew BK330.out)
           have n3_ := Aside0.mk (below_drew1 HB.out)
           clear HO_4
           clear BK325
           clear BK330
           clear HB
           have HO_4 := n0_
           have BK325 := n1_
           have BK330 := n2_
           have HB := n3_
           clear n0_ n1_ n2_ n3_
           obtain ⟨Ao23, co23, eo23⟩ := Kd.R_slice HO_4.out
           (subst eo23)
           have p331 : 0 ≤ (0 : Int) := (by omega)
           have q331 : 0 < (t326.length : Int) := of_decide_eq_true (by (with_reducible assumption))
           obtain ⟨ad331, e331, hx331_0, hx331_1, hx331_2⟩ := at_T91 (Kd.R_reads' HO_4.out).2.2 0 p331 q331
           cases e331
           have qi331 : (0 < t326.length) = True := eq_true (by omega)
           (try rw [show ((0 : Int)).toNat = 0 from rfl] at hx331_0)
           (try rw [show 0 * 3 = 0 from rfl] at hx331_0)
           (try rw [Addr.add_zero'] at hx331_0)
           (try rw [show ((0 : Int)).toNat = 0 from rfl] at hx331_1)
           (try rw [show 0 * 3 = 0 from rfl] at hx331_1)
           (try rw [Addr.add_zero'] at hx331_1)
           (try rw [show ((0 : Int)).toNat = 0 from rfl] at hx331_2)
           (try rw [show 0 * 3 = 0 from rfl] at hx331_2)
           (try rw [Addr.add_zero'] at hx331_2)
           replace p331 := eq_true p331
           replace q331 := eq_true q331
           refine start_ (n := 9) (S := fun w' => w'.cell? ad331 = some (.int .i64 ((rd_T91 t326 0).f0)) ∧ w'.cell? ⟨ad331.block, ad331.off + 1, none⟩ = some (.int .i64 ((rd_T91 t326 0).f1)) ∧ w'.cell? ⟨ad331.block, ad331.off + 2, none⟩ = some (.string ((rd_T91 t326 0).f2))) (ds := []) #[false, false, false, false, false, false, false, false, false] (by kernel_rfl) rfl rfl ⟨hx331_0, hx331_1, hx331_2⟩ (fun hHeld => ?_); refine with_tabW r21_Parse.tab8 r21_Parse.bits8 (fun HT_ HW_ => ?_)
           generalize wr.drew = w22 at HO_4 BK325 BK330 HB hx331_0 hx331_1 hx331_2 hHeld ⊢
           refine pure_ (i := 0) (N := some 29) (v := ?_) (a' := ?_) #[true, false, false, false, false, false, false, false, false] rfl rfl (any_of HT_.out (by kernel_rfl)) (fun _ _ _ h => h) (Or.inl ⟨by rfl, ?_⟩) ?_ ?_
           rotate_left
           ·intro w'
            go_simp
            with_reducible rfl
           rotate_left
           ·simp only [Act.put, List.setIfInBounds_toArray, List.set_cons_zero, List.set_cons_succ, i64_w, i32_w]
            rfl
           refine pure_ (i := 1) (N := some 30) (v := ?_) (a' := ?_) #[true, true, false, false, false, false, false, false, false] rfl rfl (any_of HT_.out (by kernel_rfl)) (fun _ _ _ h => h) (Or.inl ⟨by rfl, ?_⟩) ?_ ?_
           rotate_left
           ·intro w'
            go_simp
            with_reducible rfl
           rotate_left
           ·simp only [Act.put, List.setIfInBounds_toArray, List.set_cons_zero, List.set_cons_succ, i64_w, i32_w]
            rfl
           refine pure_ (i := 2) (N := some 31) (v := ?_) (a' := ?_) #[true, true, true, false, false, false, false, false, false] rfl rfl (any_of HT_.out (by kernel_rfl)) (fun _ _ _ h => h) (Or.inl ⟨by rfl, ?_⟩) ?_ ?_
           rotate_left
           ·intro w'
            go_simp
            with_reducible rfl
           rotate_left
           ·simp only [Act.put, List.setIfInBounds_toArray, List.set_cons_zero, List.set_cons_succ, i64_w, i32_w]
            rfl
           refine pure_ (i := 4) (N := some 33) (v := ?_) (a' := ?_) #[true, true, true, false, true, false, false, false, false] rfl rfl (any_of HT_.out (by kernel_rfl)) (fun _ _ _ h => h) (Or.inl ⟨by rfl, ?_⟩) ?_ ?_
           rotate_left
           ·intro w'
            go_simp
            with_reducible rfl
           rotate_left
           ·simp only [Act.put, List.setIfInBounds_toArray, List.set_cons_zero, List.set_cons_succ, i64_w, i32_w]
            rfl
           refine pure_ (i := 5) (N := some 34) (v := ?_) (a' := ?_) #[true, true, true, false, true, true, false, false, false] rfl rfl (any_of HT_.out (by kernel_rfl)) (fun _ _ _ h => h) (Or.inl ⟨by rfl, ?_⟩) ?_ ?_
           rotate_left
           ·intro w'
            go_simp
            with_reducible rfl
           rotate_left
           ·simp only [Act.put, List.setIfInBounds_toArray, List.set_cons_zero, List.set_cons_succ, i64_w, i32_w]
            rfl
           refine pure_ (i := 6) (N := some 35) (v := ?_) (a' := ?_) #[true, true, true, false, true, true, true, false, false] rfl rfl (any_of HT_.out (by kernel_rfl)) (fun _ _ _ h => h) (Or.inl ⟨by rfl, ?_⟩) ?_ ?_
           rotate_left
           ·intro w'
            go_simp
            with_reducible rfl
           rotate_left
           ·simp only [Act.put, List.setIfInBounds_toArray, List.set_cons_zero, List.set_cons_succ, i64_w, i32_w]
            rfl
           refine pure_ (i := 7) (N := some 36) (v := ?_) (a' := ?_) #[true, true, true, false, true, true, true, true, false] rfl rfl (any_of HT_.out (by kernel_rfl)) (fun _ _ _ h => h) (Or.inl ⟨by rfl, ?_⟩) ?_ ?_
           rotate_left
           ·intro w'
            go_simp
            with_reducible rfl
           rotate_left
           ·simp only [Act.put, List.setIfInBounds_toArray, List.set_cons_zero, List.set_cons_succ, i64_w, i32_w]
            rfl
           refine take_ (i := 3) (N := some 32) (v := ?_) (a' := ?_) #[true, true, true, true, true, true, true, true, false] rfl rfl (take_ofW HT_.out HW_.out (by kernel_rfl)) (fun _ _ _ h => h) (Or.inl ⟨by rfl, ?_⟩) hHeld ?_ ?_
           rotate_left
           ·rintro w' ⟨s0, s1, s2⟩
            go_simp
            with_reducible rfl
           rotate_left
           ·simp only [Act.put, List.setIfInBounds_toArray, List.set_cons_zero, List.set_cons_succ, i64_w, i32_w]
            rfl
           refine pure_ (i := 8) (N := some 37) (v := ?_) (a' := ?_) #[true, true, true, true, true, true, true, true, true] rfl rfl (any_of HT_.out (by kernel_rfl)) (fun _ _ _ h => h) (Or.inl ⟨by rfl, ?_⟩) ?_ ?_
           rotate_left
           ·intro w'
            go_simp
            with_reducible rfl
           rotate_left
           ·simp only [Act.put, List.setIfInBounds_toArray, List.set_cons_zero, List.set_cons_succ, i64_w, i32_w]
            rfl
           refine done_ (done_of HT_.out (by kernel_rfl)) ?_
           try go_wp2
           go_roundg k2
           case measure => have := HJ2.out; have := HK2.out; omega
           case rel => exact ⟨(wrap64 (x7_2 + 1)), (x331000_2), (by rfl), H', ⟨by have := HJ2.out; have := HK2.out; omega⟩, ⟨by (with_reducible repeat (apply Kd.R_drew)); exact HO_4.out⟩, ⟨by (with_reducible repeat (refine blk_drew ?_)); exact BK325.out⟩, ⟨by (with_reducible repeat (refine blk_drew ?_)); exact BK330.out⟩, ⟨by repeat ((with_reducible exact HB.out))⟩⟩
         ·rw [if_neg c15] at H
          exact absurd H (by simp)
        ·rw [if_neg c14] at H
         exact absurd H (by simp)
       ·rw [if_neg c12] at H
        exact absurd H (by simp)
      ·rw [if_neg c11] at H
       have c11b0 : decide (x7_2 ≤ 6) = false := decide_eq_false c11
       clear c11
       by_cases c24 : 1 < (t326.length : Int)
       ·rw [if_pos c24] at H
        have c24b0 : decide (1 < (t326.length : Int)) = true := decide_eq_true c24
        have c24b1 : decide (1 < t326.length) = true := decide_eq_true (by omega)
        clear c24
        have HC25 := Aside0.mk H
        clear H
        obtain ⟨Ao26, co26, eo26⟩ := Kd.R_slice HO_4.out
        subst eo26
        have p332 : 0 ≤ (1 : Int) := (by omega)
        have q332 : 1 < (t326.length : Int) := of_decide_eq_true (by (with_reducible assumption))
        obtain ⟨ad332, e332, hx332_0, hx332_1, hx332_2⟩ := at_T91 (Kd.R_reads' HO_4.out).2.2 1 p332 q332
        cases e332
        (try simp only [show (1 : Int).toNat = 1 from rfl, Nat.reduceMul, Nat.reduceEqDiff, Go.Addr.add, ↓reduceIte] at hx332_0)
        (try simp only [show (1 : Int).toNat = 1 from rfl, Nat.reduceMul, Nat.reduceEqDiff, Go.Addr.add, ↓reduceIte] at hx332_1)
        (try simp only [show (1 : Int).toNat = 1 from rfl, Nat.reduceMul, Nat.reduceEqDiff, Go.Addr.add, ↓reduceIte] at hx332_2)
        have qi332 : (1 < t326.length) = True := eq_true (by omega)
        (try rw [show ((1 : Int)).toNat = 1 from rfl] at hx332_0)
        (try rw [show 1 * 3 = 3 from rfl] at hx332_0)
        (try rw [show ((1 : Int)).toNat = 1 from rfl] at hx332_1)
        (try rw [show 1 * 3 = 3 from rfl] at hx332_1)
        (try rw [show ((1 : Int)).toNat = 1 from rfl] at hx332_2)
        (try rw [show 1 * 3 = 3 from rfl] at hx332_2)
        replace p332 := eq_true p332
        replace q332 := eq_true q332
        have hnb27 := NB330_325.out
        have hnc27 := NB325_330.out
        have hcz28_0 : wr.cell? ⟨gb330, 0, none⟩ = some (.int .i64 x331000_2) := (blk_cell BK330.out 0).trans rfl
        have hcz28_1 : wr.cell? ⟨gb330, 1, none⟩ = some (.string (⟨#[]⟩ : ByteArray)) := (blk_cell BK330.out 1).trans rfl
        have hcz28_2 : wr.cell? ⟨gb330, 2, none⟩ = some (.string (⟨#[]⟩ : ByteArray)) := (blk_cell BK330.out 2).trans rfl
        have hcz28_3 : wr.cell? ⟨gb330, 3, none⟩ = some (.slice none 0 0) := (blk_cell BK330.out 3).trans rfl
        have hfz28_0 := blk_frozen BK330.out 0
        have hfz28_1 := blk_frozen BK330.out 1
        have hfz28_2 := blk_frozen BK330.out 2
        have hfz28_3 := blk_frozen BK330.out 3
        go_upto_region 12 with (fail)
        go_cut [52] (fun v52 wc => ∃ (kq : Nat) (x52_24 : Bool), v52 = .bool x52_24 ∧ Aside0 (r21_Parse.j2 kq a0 t326 2 x52_24 x331000_2 ((rd_T91 t326 1).f2) (⟨#[]⟩ : ByteArray) = some (r1, r2, r3, r4, r5)) ∧ Aside0 (kq ≤ k2) ∧ Aside0 (Kd.R k91 91 wc w.heap.size (fun _ => True) (.slice (some ad332) t326.length co26) t326) ∧ Aside0 (wc.heap[gb325]? = some (.cells #[.int .i64 0, .string (⟨#[]⟩ : ByteArray), .string (⟨#[]⟩ : ByteArray), (.slice none 0 0)] 25 (0, 0))) ∧ Aside0 (wc.heap[gb330]? = some (.cells #[.int .i64 x331000_2, .string ((rd_T91 t326 1).f2), .string (⟨#[]⟩ : ByteArray), (.slice none 0 0)] 25 (0, 0))) ∧ Aside0 (Below w.heap.size w wc))
        case first =>
         have H := HC25.out
         clear HC25
         by_cases c29 : x331000_2 > 1
         ·rw [if_pos c29] at H
          have c29b0 : decide (1 < x331000_2) = true := decide_eq_true c29
          clear c29
          (skip)
          have H' := Aside0.mk H
          clear H
          have hnb30 := NB330_325.out
          have hnc30 := NB325_330.out
          have hcz31_0 : wr.cell? ⟨gb330, 0, none⟩ = some (.int .i64 x331000_2) := (blk_cell BK330.out 0).trans rfl
          have hcz31_1 : wr.cell? ⟨gb330, 1, none⟩ = some (.string (⟨#[]⟩ : ByteArray)) := (blk_cell BK330.out 1).trans rfl
          have hcz31_2 : wr.cell? ⟨gb330, 2, none⟩ = some (.string (⟨#[]⟩ : ByteArray)) := (blk_cell BK330.out 2).trans rfl
          have hcz31_3 : wr.cell? ⟨gb330, 3, none⟩ = some (.slice none 0 0) := (blk_cell BK330.out 3).trans rfl
          have hfz31_0 := blk_frozen BK330.out 0
          have hfz31_1 := blk_frozen BK330.out 1
          have hfz31_2 := blk_frozen BK330.out 2
          have hfz31_3 := blk_frozen BK330.out 3
          go_wp2
          go_meet
          case rel => exact ⟨_, (decide ((t326.length : Int) > 2)), (by rfl), H', ⟨by have := HJ2.out; have := HK2.out; omega⟩, ⟨by (with_reducible repeat (apply Kd.R_drew)); exact Kd.R_mono (Kd.R_far (p := ⟨gb330, 1, none⟩) (Kd.R_types HO_4.out BK330.out (by decide)) (fun _ hk => hk.2) (.string ((rd_T91 t326 1).f2))) (fun _ hk => trivial)⟩, ⟨by (with_reducible repeat (refine blk_drew ?_)); refine blk_far ?_ NB325_330.out _; (with_reducible repeat (refine blk_drew ?_)); exact BK325.out⟩, ⟨by (with_reducible repeat (refine blk_drew ?_)); refine blk_put (cs := #[.int .i64 x331000_2, .string (⟨#[]⟩ : ByteArray), .string (⟨#[]⟩ : ByteArray), .slice none 0 0]) ?_ 1 _ rfl; (with_reducible repeat (refine blk_drew ?_)); exact BK330.out⟩, ⟨by repeat ((with_reducible first | exact HB.out | refine below_set ?_ GE330.out))⟩⟩
         ·rw [if_neg c29] at H
          have c29b0 : decide (1 < x331000_2) = false := decide_eq_false c29
          clear c29
          (skip)
          have H' := Aside0.mk H
          clear H
          have hnb32 := NB330_325.out
          have hnc32 := NB325_330.out
          have hcz33_0 : wr.cell? ⟨gb330, 0, none⟩ = some (.int .i64 x331000_2) := (blk_cell BK330.out 0).trans rfl
          have hcz33_1 : wr.cell? ⟨gb330, 1, none⟩ = some (.string (⟨#[]⟩ : ByteArray)) := (blk_cell BK330.out 1).trans rfl
          have hcz33_2 : wr.cell? ⟨gb330, 2, none⟩ = some (.string (⟨#[]⟩ : ByteArray)) := (blk_cell BK330.out 2).trans rfl
          have hcz33_3 : wr.cell? ⟨gb330, 3, none⟩ = some (.slice none 0 0) := (blk_cell BK330.out 3).trans rfl
          have hfz33_0 := blk_frozen BK330.out 0
          have hfz33_1 := blk_frozen BK330.out 1
          have hfz33_2 := blk_frozen BK330.out 2
          have hfz33_3 := blk_frozen BK330.out 3
          go_wp2
          go_meet
          case rel => exact ⟨_, (false), (by rfl), H', ⟨by have := HJ2.out; have := HK2.out; omega⟩, ⟨by (with_reducible repeat (apply Kd.R_drew)); exact Kd.R_mono (Kd.R_far (p := ⟨gb330, 1, none⟩) (Kd.R_types HO_4.out BK330.out (by decide)) (fun _ hk => hk.2) (.string ((rd_T91 t326 1).f2))) (fun _ hk => trivial)⟩, ⟨by (with_reducible repeat (refine blk_drew ?_)); refine blk_far ?_ NB325_330.out _; (with_reducible repeat (refine blk_drew ?_)); exact BK325.out⟩, ⟨by (with_reducible repeat (refine blk_drew ?_)); refine blk_put (cs := #[.int .i64 x331000_2, .string (⟨#[]⟩ : ByteArray), .string (⟨#[]⟩ : ByteArray), .slice none 0 0]) ?_ 1 _ rfl; (with_reducible repeat (refine blk_drew ?_)); exact BK330.out⟩, ⟨by repeat ((with_reducible first | exact HB.out | refine below_set ?_ GE330.out))⟩⟩
        case rest =>
         clear HC25
         try clear c1
         try clear c2
         try clear p2
         try clear c3
         try clear p3
         try clear q3
         try clear hx3
         try clear qi3
         try clear c5
         try clear c6
         try clear c6b0
         try clear c6b1
         try clear p6
         try clear c8
         try clear c11
         try clear c11b0
         try clear c12
         try clear c12b0
         try clear c12b1
         try clear c14
         try clear c14b0
         try clear c14b1
         try clear c15
         try clear c15b0
         try clear c15b1
         try clear c16
         try clear c16b0
         try clear c17
         try clear c17b0
         try clear c17b1
         try clear c20
         try clear c24
         try clear c24b0
         try clear c24b1
         try clear c27
         try clear c29
         try clear c29b0
         try clear c30
         try clear c32
         try clear p33
         try clear q33
         try clear hx33
         try clear qi33
         try clear hcz21_0
         try clear hcz21_1
         try clear hcz21_2
         try clear hcz21_3
         try clear hcz28_0
         try clear hcz28_1
         try clear hcz28_2
         try clear hcz28_3
         try clear hcz31_0
         try clear hcz31_1
         try clear hcz31_2
         try clear hcz31_3
         try clear hcz33_0
         try clear hcz33_1
         try clear hcz33_2
         try clear hcz33_3
         try clear hcz9_0
         try clear hcz9_1
         try clear hcz9_2
         try clear hcz9_3
         try clear hfz21_0
         try clear hfz21_1
         try clear hfz21_2
         try clear hfz21_3
         try clear hfz28_0
         try clear hfz28_1
         try clear hfz28_2
         try clear hfz28_3
         try clear hfz31_0
         try clear hfz31_1
         try clear hfz31_2
         try clear hfz31_3
         try clear hfz33_0
         try clear hfz33_1
         try clear hfz33_2
         try clear hfz33_3
         try clear hfz9_0
         try clear hfz9_1
         try clear hfz9_2
         try clear hfz9_3
         try clear hx331_0
         try clear hx331_1
         try clear hx331_2
         try clear hx332_0
         try clear hx332_1
         try clear hx332_2
         try clear p2
         try clear p331
         try clear p332
         try clear q331
         try clear q332
         obtain ⟨kq, x52_24, rfl, HA, HJ24, HO_4, BK325, BK330, HB⟩ := hcut
         cases kq with
         | zero => exact absurd HA.out (by simp [r21_Parse.j2])
         | succ kj24 =>
          have H := HA.out
          clear HA
          simp only [r21_Parse.j2] at H
          have HC34 := Aside0.mk H
          clear H
          go_upto_if 52 with (fail)
          go_cut [8] (fun v8 wc => ∃ (kq : Nat) (x8_33 : Int) (x331002_33 : ByteArray), v8 = .int .i64 x8_33 ∧ Aside0 (r21_Parse.j3 kq a0 t326 x8_33 x331000_2 ((rd_T91 t326 1).f2) x331002_33 = some (r1, r2, r3, r4, r5)) ∧ Aside0 (kq ≤ kj24) ∧ Aside0 (Kd.R k91 91 wc w.heap.size (fun _ => True) (.slice (some ad332) t326.length co26) t326) ∧ Aside0 (wc.heap[gb325]? = some (.cells #[.int .i64 0, .string (⟨#[]⟩ : ByteArray), .string (⟨#[]⟩ : ByteArray), (.slice none 0 0)] 25 (0, 0))) ∧ Aside0 (wc.heap[gb330]? = some (.cells #[.int .i64 x331000_2, .string ((rd_T91 t326 1).f2), .string x331002_33, (.slice none 0 0)] 25 (0, 0))) ∧ Aside0 (Below w.heap.size w wc))
          case first =>
           have H := HC34.out
           clear HC34
           by_cases c35 : x52_24 = true
           ·subst c35
            have H1 : (if 2 < (t326.length : Int) then (r21_Parse.j3 kj24 a0 t326 3 x331000_2 ((rd_T91 t326 1).f2) ((rd_T91 t326 2).f2)) else (none)) = some (r1, r2, r3, r4, r5) := by rw [if_pos rfl] at H; exact H
            clear H
            have H := H1
            clear H1
            by_cases c36 : 2 < (t326.length : Int)
            ·rw [if_pos c36] at H
             have c36b0 : decide (2 < (t326.length : Int)) = true := decide_eq_true c36
             have c36b1 : decide (2 < t326.length) = true := decide_eq_true (by omega)
             clear c36
             (skip)
             have H' := Aside0.mk H
             clear H
             have p333 : 0 ≤ (2 : Int) := (by omega)
             have q333 : 2 < (t326.length : Int) := of_decide_eq_true (by (with_reducible assumption))
             obtain ⟨ad333, e333, hx333_0, hx333_1, hx333_2⟩ := at_T91 (Kd.R_reads' HO_4.out).2.2 2 p333 q333
             obtain rfl : ad332 = ad333 := (by injection e333)
             (try simp only [show (2 : Int).toNat = 2 from rfl, Nat.reduceMul, Nat.reduceEqDiff, Go.Addr.add, ↓reduceIte] at hx333_0)
             (try simp only [show (2 : Int).toNat = 2 from rfl, Nat.reduceMul, Nat.reduceEqDiff, Go.Addr.add, ↓reduceIte] at hx333_1)
             (try simp only [show (2 : Int).toNat = 2 from rfl, Nat.reduceMul, Nat.reduceEqDiff, Go.Addr.add, ↓reduceIte] at hx333_2)
             have qi333 : (2 < t326.length) = True := eq_true (by omega)
             (try rw [show ((2 : Int)).toNat = 2 from rfl] at hx333_0)
             (try rw [show 2 * 3 = 6 from rfl] at hx333_0)
             (try rw [show ((2 : Int)).toNat = 2 from rfl] at hx333_1)
             (try rw [show 2 * 3 = 6 from rfl] at hx333_1)
             (try rw [show ((2 : Int)).toNat = 2 from rfl] at hx333_2)
             (try rw [show 2 * 3 = 6 from rfl] at hx333_2)
             replace p333 := eq_true p333
             replace q333 := eq_true q333
             have hnb37 := NB330_325.out
             have hnc37 := NB325_330.out
             have hcz38_0 : wc.cell? ⟨gb330, 0, none⟩ = some (.int .i64 x331000_2) := (blk_cell BK330.out 0).trans rfl
             have hcz38_1 : wc.cell? ⟨gb330, 1, none⟩ = some (.string ((rd_T91 t326 1).f2)) := (blk_cell BK330.out 1).trans rfl
             have hcz38_2 : wc.cell? ⟨gb330, 2, none⟩ = some (.string (⟨#[]⟩ : ByteArray)) := (blk_cell BK330.out 2).trans rfl
             have hcz38_3 : wc.cell? ⟨gb330, 3, none⟩ = some (.slice none 0 0) := (blk_cell BK330.out 3).trans rfl
             have hfz38_0 := blk_frozen BK330.out 0
             have hfz38_1 := blk_frozen BK330.out 1
             have hfz38_2 := blk_frozen BK330.out 2
             have hfz38_3 := blk_frozen BK330.out 3
             go_wp2
             go_meet
             case rel => exact ⟨_, (3), ((rd_T91 t326 2).f2), (by rfl), H', ⟨by have := HJ2.out; have := HK2.out; have := HJ24.out; omega⟩, ⟨by (with_reducible repeat (apply Kd.R_drew)); exact Kd.R_mono (Kd.R_far (p := ⟨gb330, 2, none⟩) (Kd.R_types HO_4.out BK330.out (by decide)) (fun _ hk => hk.2) (.string ((rd_T91 t326 2).f2))) (fun _ hk => trivial)⟩, ⟨by (with_reducible repeat (refine blk_drew ?_)); refine blk_far ?_ NB325_330.out _; (with_reducible repeat (refine blk_drew ?_)); exact BK325.out⟩, ⟨by (with_reducible repeat (refine blk_drew ?_)); refine blk_put (cs := #[.int .i64 x331000_2, .string ((rd_T91 t326 1).f2), .string (⟨#[]⟩ : ByteArray), .slice none 0 0]) ?_ 2 _ rfl; (with_reducible repeat (refine blk_drew ?_)); exact BK330.out⟩, ⟨by repeat ((with_reducible first | exact HB.out | refine below_set ?_ GE330.out))⟩⟩
            ·rw [if_neg c36] at H
             exact absurd H (by simp)
           ·replace c35 := Bool.eq_false_iff.mpr c35
            subst c35
            have H1 : (r21_Parse.j3 kj24 a0 t326 2 x331000_2 ((rd_T91 t326 1).f2) (⟨#[]⟩ : ByteArray)) = some (r1, r2, r3, r4, r5) := by rw [if_neg (show ¬ (false = true) by decide)] at H; exact H
            clear H
            have H := H1
            clear H1
            have H' := Aside0.mk H
            clear H
            go_wp2
            go_meet
            case rel => exact ⟨_, (2), ((⟨#[]⟩ : ByteArray)), (by rfl), H', ⟨by have := HJ2.out; have := HK2.out; have := HJ24.out; omega⟩, ⟨by (with_reducible repeat (apply Kd.R_drew)); exact HO_4.out⟩, ⟨by (with_reducible repeat (refine blk_drew ?_)); exact BK325.out⟩, ⟨by (with_reducible repeat (refine blk_drew ?_)); exact BK330.out⟩, ⟨by repeat ((with_reducible exact HB.out))⟩⟩
          case rest =>
           clear HC34
           try clear c1
           try clear c2
           try clear p2
           try clear c3
           try clear p3
           try clear q3
           try clear hx3
           try clear qi3
           try clear c5
           try clear c6
           try clear c6b0
           try clear c6b1
           try clear p6
           try clear c8
           try clear c11
           try clear c11b0
           try clear c12
           try clear c12b0
           try clear c12b1
           try clear c14
           try clear c14b0
           try clear c14b1
           try clear c15
           try clear c15b0
           try clear c15b1
           try clear c16
           try clear c16b0
           try clear c17
           try clear c17b0
           try clear c17b1
           try clear c20
           try clear c24
           try clear c24b0
           try clear c24b1
           try clear c27
           try clear c29
           try clear c29b0
           try clear c30
           try clear c32
           try clear p33
           try clear q33
           try clear hx33
           try clear qi33
           try clear c35
           try clear c36
           try clear c36b0
           try clear c36b1
           try clear c37
           try clear hcz21_0
           try clear hcz21_1
           try clear hcz21_2
           try clear hcz21_3
           try clear hcz28_0
           try clear hcz28_1
           try clear hcz28_2
           try clear hcz28_3
           try clear hcz31_0
           try clear hcz31_1
           try clear hcz31_2
           try clear hcz31_3
           try clear hcz33_0
           try clear hcz33_1
           try clear hcz33_2
           try clear hcz33_3
           try clear hcz38_0
           try clear hcz38_1
           try clear hcz38_2
           try clear hcz38_3
           try clear hcz9_0
           try clear hcz9_1
           try clear hcz9_2
           try clear hcz9_3
           try clear hfz21_0
           try clear hfz21_1
           try clear hfz21_2
           try clear hfz21_3
           try clear hfz28_0
           try clear hfz28_1
           try clear hfz28_2
           try clear hfz28_3
           try clear hfz31_0
           try clear hfz31_1
           try clear hfz31_2
           try clear hfz31_3
           try clear hfz33_0
           try clear hfz33_1
           try clear hfz33_2
           try clear hfz33_3
           try clear hfz38_0
           try clear hfz38_1
           try clear hfz38_2
           try clear hfz38_3
           try clear hfz9_0
           try clear hfz9_1
           try clear hfz9_2
           try clear hfz9_3
           try clear hx331_0
           try clear hx331_1
           try clear hx331_2
           try clear hx332_0
           try clear hx332_1
           try clear hx332_2
           try clear hx333_0
           try clear hx333_1
           try clear hx333_2
           try clear p2
           try clear p3
           try clear p33
           try clear p331
           try clear p332
           try clear p333
           try clear p6
           try clear q3
           try clear q33
           try clear q331
           try clear q332
           try clear q333
           obtain ⟨kq, x8_33, x331002_33, rfl, HA, HJ33, HO_4, BK325, BK330, HB⟩ := hcut
           cases kq with
           | zero => exact absurd HA.out (by simp [r21_Parse.j3])
           | succ kj33 =>
            have H := HA.out
            clear HA
            simp only [r21_Parse.j3] at H
            have H' := Aside0.mk H
            clear H
            go_wp2
            go_loopg [9] kj33 (fun kq v9 w' => ∃ (x9_5 : Int) (x331003_5 : List Int) (u331003 : Value), v9 = .int .i64 x9_5 ∧ Aside0 (r21_Parse.l1 kq a0 t326 x9_5 x331000_2 ((rd_T91 t326 1).f2) x331002_33 x331003_5 = some (r1, r2, r3, r4, r5)) ∧ Aside0 (kq ≤ kj33) ∧ Aside0 (Kd.R k91 91 w' w.heap.size (fun _ => True) (.slice (some ad332) t326.length co26) t326) ∧ Aside0 (Kd.R (Kd.int .i64) 3 w' w.heap.size (fun _ => True) u331003 x331003_5) ∧ Aside0 (w'.heap[gb325]? = some (.cells #[.int .i64 0, .string (⟨#[]⟩ : ByteArray), .string (⟨#[]⟩ : ByteArray), (.slice none 0 0)] 25 (0, 0))) ∧ Aside0 (w'.heap[gb330]? = some (.cells #[.int .i64 x331000_2, .string ((rd_T91 t326 1).f2), .string x331002_33, u331003] 25 (0, 0))) ∧ Aside0 (Below w.heap.size w w'))
            case atStart => exact ⟨(x8_33), (([] : List Int)), (.slice none 0 0), (by rfl), H', ⟨Nat.le_refl _⟩, ⟨by (with_reducible repeat (apply Kd.R_drew)); exact HO_4.out⟩, ⟨by exact Kd.R_nil _ _ _ _ _⟩, ⟨by (with_reducible repeat (refine blk_drew ?_)); exact BK325.out⟩, ⟨by (with_reducible repeat (refine blk_drew ?_)); exact BK330.out⟩, ⟨by repeat ((with_reducible exact HB.out))⟩⟩
            case round =>
             clear H'
             try clear c1
             try clear c2
             try clear p2
             try clear c3
             try clear p3
             try clear q3
             try clear hx3
             try clear qi3
             try clear c5
             try clear c6
             try clear c6b0
             try clear c6b1
             try clear p6
             try clear c8
             try clear c11
             try clear c11b0
             try clear c12
             try clear c12b0
             try clear c12b1
             try clear c14
             try clear c14b0
             try clear c14b1
             try clear c15
             try clear c15b0
             try clear c15b1
             try clear c16
             try clear c16b0
             try clear c17
             try clear c17b0
             try clear c17b1
             try clear c20
             try clear c24
             try clear c24b0
             try clear c24b1
             try clear c27
             try clear c29
             try clear c29b0
             try clear c30
             try clear c32
             try clear p33
             try clear q33
             try clear hx33
             try clear qi33
             try clear c35
             try clear c36
             try clear c36b0
             try clear c36b1
             try clear c37
             try clear hcz21_0
             try clear hcz21_1
             try clear hcz21_2
             try clear hcz21_3
             try clear hcz28_0
             try clear hcz28_1
             try clear hcz28_2
             try clear hcz28_3
             try clear hcz31_0
             try clear hcz31_1
             try clear hcz31_2
             try clear hcz31_3
             try clear hcz33_0
             try clear hcz33_1
             try clear hcz33_2
             try clear hcz33_3
             try clear hcz38_0
             try clear hcz38_1
             try clear hcz38_2
             try clear hcz38_3
             try clear hcz9_0
             try clear hcz9_1
             try clear hcz9_2
             try clear hcz9_3
             try clear hfz21_0
             try clear hfz21_1
             try clear hfz21_2
             try clear hfz21_3
             try clear hfz28_0
             try clear hfz28_1
             try clear hfz28_2
             try clear hfz28_3
             try clear hfz31_0
             try clear hfz31_1
             try clear hfz31_2
             try clear hfz31_3
             try clear hfz33_0
             try clear hfz33_1
             try clear hfz33_2
             try clear hfz33_3
             try clear hfz38_0
             try clear hfz38_1
             try clear hfz38_2
             try clear hfz38_3
             try clear hfz9_0
             try clear hfz9_1
             try clear hfz9_2
             try clear hfz9_3
             try clear hx331_0
             try clear hx331_1
             try clear hx331_2
             try clear hx332_0
             try clear hx332_1
             try clear hx332_2
             try clear hx333_0
             try clear hx333_1
             try clear hx333_2
             try clear p2
             try clear p3
             try clear p33
             try clear p331
             try clear p332
             try clear p333
             try clear p6
             try clear q3
             try clear q33
             try clear q331
             try clear q332
             try clear q333
             obtain ⟨x9_5, x331003_5, u331003, rfl, HA, HK5, HO_4, HO_331003, BK325, BK330, HB⟩ := hrel
             cases gk with
             | zero => exact absurd HA.out (by simp [r21_Parse.l1])
             | succ k5 =>
              have H := HA.out
              clear HA
              simp only [r21_Parse.l1] at H
              by_cases c39 : x9_5 < (t326.length : Int)
              ·rw [if_pos c39] at H
               have c39b0 : decide (x9_5 < (t326.length : Int)) = true := decide_eq_true c39
               clear c39
               by_cases c40 : 0 ≤ x9_5
               ·rw [if_pos c40] at H
                have c40b0 : decide (0 ≤ x9_5) = true := decide_eq_true c40
                clear c40
                by_cases c41 : x331003_5.length < 17592186044416
                ·rw [if_pos c41] at H
                 have LMc41 := Aside0.mk c41
                 clear c41
                 obtain ⟨y335, hy335⟩ : ∃ y_ : List Int, y_ = (x331003_5 ++ [(rd_T91 t326 x9_5).f1]) := ⟨_, rfl⟩
                 replace H : (r21_Parse.l1 k5 a0 t326 (wrap64 (x9_5 + 1)) x331000_2 ((rd_T91 t326 1).f2) x331002_33 y335) = some (r1, r2, r3, r4, r5) := by (rw [hy335]; with_reducible exact H)
                 have Ny335 := Aside0.mk hy335
                 clear hy335
                 have H' := Aside0.mk H
                 clear H
                 try go_wp2
                 have n0_ := Aside0.mk (Kd.R_drew HO_4.out)
                 have n1_ := Aside0.mk (Kd.R_drew HO_331003.out)
                 have n2_ := Aside0.mk (blk_drew BK325.out)
                 have n3_ := Aside0.mk (blk_drew BK330.out)
                 have n4_ := Aside0.mk (below_drew1 HB.out)
                 clear HO_4
                 clear HO_331003
                 clear BK325
                 clear BK330
                 clear HB
                 have HO_4 := n0_
                 have HO_331003 := n1_
                 have BK325 := n2_
                 have BK330 := n3_
                 have HB := n4_
                 clear n0_ n1_ n2_ n3_ n4_
                 have p334 : 0 ≤ (x9_5 : Int) := of_decide_eq_true (by (with_reducible assumption))
                 have q334 : x9_5 < (t326.length : Int) := of_decide_eq_true (by (with_reducible assumption))
                 obtain ⟨ad334, e334, hx334_0, hx334_1, hx334_2⟩ := at_T91 (Kd.R_reads' HO_4.out).2.2 x9_5 p334 q334
                 obtain rfl : ad332 = ad334 := (by injection e334)
                 replace p334 := eq_true p334
                 replace q334 := eq_true q334
                 refine start_ (n := 11) (S := fun w' => w'.cell? ⟨gb330, 0, none⟩ = some (.int .i64 x331000_2) ∧ w'.cell? ⟨gb330, 1, none⟩ = some (.string ((rd_T91 t326 1).f2)) ∧ w'.cell? ⟨gb330, 2, none⟩ = some (.string x331002_33) ∧ w'.cell? ⟨gb330, 3, none⟩ = some (u331003) ∧ w'.cell? (ad332.add ((x9_5).toNat * 3)) = some (.int .i64 ((rd_T91 t326 x9_5).f0)) ∧ w'.cell? ⟨(ad332.add ((x9_5).toNat * 3)).block, (ad332.add ((x9_5).toNat * 3)).off + 1, none⟩ = some (.int .i64 ((rd_T91 t326 x9_5).f1)) ∧ w'.cell? ⟨(ad332.add ((x9_5).toNat * 3)).block, (ad332.add ((x9_5).toNat * 3)).off + 2, none⟩ = some (.string ((rd_T91 t326 x9_5).f2))) (ds := [8, 10]) #[false, false, false, false, false, false, false, false, false, false, false] (by kernel_rfl) rfl rfl ⟨(blk_cell BK330.out 0).trans rfl, (blk_cell BK330.out 1).trans rfl, (blk_cell BK330.out 2).trans rfl, (blk_cell BK330.out 3).trans rfl, hx334_0, hx334_1, hx334_2⟩ (fun hHeld => ?_); refine with_tabW r21_Parse.tab17 r21_Parse.bits17 (fun HT_ HW_ => ?_)
                 generalize wr.drew = w42 at HO_4 HO_331003 BK325 BK330 HB hx334_0 hx334_1 hx334_2 hHeld ⊢
                 refine pure_ (i := 0) (N := some 65) (v := ?_) (a' := ?_) #[true, false, false, false, false, false, false, false, false, false, false] rfl rfl (any_of HT_.out (by kernel_rfl)) (fun _ _ _ h => h) (Or.inl ⟨by rfl, ?_⟩) ?_ ?_
                 rotate_left
                 ·intro w'
                  go_simp
                  with_reducible rfl
                 rotate_left
                 ·simp only [Act.put, List.setIfInBounds_toArray, List.set_cons_zero, List.set_cons_succ, i64_w, i32_w]
                  rfl
                 refine pure_ (i := 2) (N := some 67) (v := ?_) (a' := ?_) #[true, false, true, false, false, false, false, false, false, false, false] rfl rfl (any_of HT_.out (by kernel_rfl)) (fun _ _ _ h => h) (Or.inl ⟨by rfl, ?_⟩) ?_ ?_
                 rotate_left
                 ·intro w'
                  go_simp
                  with_reducible rfl
                 rotate_left
                 ·simp only [Act.put, List.setIfInBounds_toArray, List.set_cons_zero, List.set_cons_succ, i64_w, i32_w]
                  rfl
                 refine pure_ (i := 3) (N := some 68) (v := ?_) (a' := ?_) #[true, false, true, true, false, false, false, false, false, false, false] rfl rfl (any_of HT_.out (by kernel_rfl)) (fun _ _ _ h => h) (Or.inl ⟨by rfl, ?_⟩) ?_ ?_
                 rotate_left
                 ·intro w'
                  go_simp
                  with_reducible rfl
                 rotate_left
                 ·simp only [Act.put, List.setIfInBounds_toArray, List.set_cons_zero, List.set_cons_succ, i64_w, i32_w]
                  rfl
                 refine pure_ (i := 4) (N := some 69) (v := ?_) (a' := ?_) #[true, false, true, true, true, false, false, false, false, false, false] rfl rfl (any_of HT_.out (by kernel_rfl)) (fun _ _ _ h => h) (Or.inl ⟨by rfl, ?_⟩) ?_ ?_
                 rotate_left
                 ·intro w'
                  go_simp
                  with_reducible rfl
                 rotate_left
                 ·simp only [Act.put, List.setIfInBounds_toArray, List.set_cons_zero, List.set_cons_succ, i64_w, i32_w]
                  rfl
                 refine pure_ (i := 5) (N := some 70) (v := ?_) (a' := ?_) #[true, false, true, true, true, true, false, false, false, false, false] rfl rfl (any_of HT_.out (by kernel_rfl)) (fun _ _ _ h => h) (Or.inl ⟨by rfl, ?_⟩) ?_ ?_
                 rotate_left
                 ·intro w'
                  go_simp
                  with_reducible rfl
                 rotate_left
                 ·simp only [Act.put, List.setIfInBounds_toArray, List.set_cons_zero, List.set_cons_succ, i64_w, i32_w]
                  rfl
                 refine take_ (i := 1) (N := some 66) (v := ?_) (a' := ?_) #[true, true, true, true, true, true, false, false, false, false, false] rfl rfl (take_ofW HT_.out HW_.out (by kernel_rfl)) (fun _ _ _ h => h) (Or.inl ⟨by rfl, ?_⟩) hHeld ?_ ?_
                 rotate_left
                 ·rintro w' ⟨s0, s1, s2, s3, s4, s5, s6⟩
                  go_simp
                  with_reducible rfl
                 rotate_left
                 ·simp only [Act.put, List.setIfInBounds_toArray, List.set_cons_zero, List.set_cons_succ, i64_w, i32_w]
                  rfl
                 refine take_ (i := 6) (N := some 71) (v := ?_) (a' := ?_) #[true, true, true, true, true, true, true, false, false, false, false] rfl rfl (take_ofW HT_.out HW_.out (by kernel_rfl)) (fun _ _ _ h => h) (Or.inl ⟨by rfl, ?_⟩) hHeld ?_ ?_
                 rotate_left
                 ·rintro w' ⟨s0, s1, s2, s3, s4, s5, s6⟩
                  go_simp
                  with_reducible rfl
                 rotate_left
                 ·simp only [Act.put, List.setIfInBounds_toArray, List.set_cons_zero, List.set_cons_succ, i64_w, i32_w]
                  rfl
                 refine one_ (i := 7) (N := some 72) #[true, true, true, true, true, true, true, true, false, false, false] rfl rfl (one_of HT_.out (by kernel_rfl)) (by decide) (fun K hK => ?_)
                 refine value_ (w1 := ?_) (v := ?_) (by rfl) rfl ?_ ?_
                 rotate_left 2
                 ·go_simp
                  constructor
                  ·rfl
                  ·rfl
                 refine hK.out _ _ ⟨(blk_cell (blk_alloc BK330.out _) 0).trans rfl, (blk_cell (blk_alloc BK330.out _) 1).trans rfl, (blk_cell (blk_alloc BK330.out _) 2).trans rfl, (blk_cell (blk_alloc BK330.out _) 3).trans rfl, (World.cell?_alloc_lt _ _ _ (World.block_lt_of_cell? _ _ (hHeld.2.2.2.2.1))).trans (hHeld.2.2.2.2.1), (World.cell?_alloc_lt _ _ _ (World.block_lt_of_cell? _ _ (hHeld.2.2.2.2.2.1))).trans (hHeld.2.2.2.2.2.1), (World.cell?_alloc_lt _ _ _ (World.block_lt_of_cell? _ _ (hHeld.2.2.2.2.2.2))).trans (hHeld.2.2.2.2.2.2)⟩ (fun hHeld => ?_)
                 clear hK K
                 refine norm_ (a' := ?_) ?_ ?_
                 rotate_left
                 ·show Act.put _ (some 72) _ = _
                  simp only [Act.put, List.setIfInBounds_toArray, List.set_cons_zero, List.set_cons_succ, i64_w, i32_w]
                  rfl
                 refine last_ (i := 8) (N := some 73) #[true, true, true, true, true, true, true, true, true, false, false] rfl rfl (one_of HT_.out (by kernel_rfl)) (by decide) (fun K hK => ?_)
                 refine Kd.R_append_step (Kd.int .i64) (w0 := w) w.heap.size (by rfl) (.tmp 66) (.tmp 72) 23 3 (.int .i64 0) 8 rfl Tryd.underlying23 info3 rfl (by decide) (by omega) u331003 x331003_5 ((rd_T91 t326 x9_5).f1) [.int .i64 ((rd_T91 t326 x9_5).f1)] (fun _ => True) (fun _ => False) rfl rfl ?aP (fun _ hk => hk.elim) ?aF ?aO ?aB ?aS ?aL ?_
                 (case aP => exact rfl)
                 (case aB => exact (by repeat ((with_reducible exact HB.out))))
                 (case aF => exact (fun _ _ => trivial))
                 (case aO => exact (by (with_reducible repeat (apply Kd.R_drew)); exact HO_331003.out))
                 (case aS => exact (below_size (by repeat ((with_reducible exact HB.out)))))
                 (case aL => have := LMc41.out; omega)
                 intro v336 w43 ho hb hg hat
                 rw [← Ny335.out] at ho
                 have n0_ := Aside0.mk (Kd.R_over' (by (with_reducible repeat (apply Kd.R_drew)); exact HO_4.out) (Kd.R_typed (by (with_reducible repeat (apply Kd.R_drew)); exact HO_331003.out)) (by decide) hg)
                 have n1_ := Aside0.mk (blk_grown (g := gb325) (o := .cells #[.int .i64 0, .string (⟨#[]⟩ : ByteArray), .string (⟨#[]⟩ : ByteArray), .slice none 0 0] 25 (0, 0)) (by (with_reducible repeat (refine blk_drew ?_)); exact BK325.out) hg (Kd.R_ne HO_331003.out BK325.out (by decide)))
                 have n2_ := Aside0.mk (blk_grown (g := gb330) (o := .cells #[.int .i64 x331000_2, .string ((rd_T91 t326 1).f2), .string x331002_33, u331003] 25 (0, 0)) (by (with_reducible repeat (refine blk_drew ?_)); exact BK330.out) hg (Kd.R_ne HO_331003.out BK330.out (by decide)))
                 have n3_ := Aside0.mk (hb)
                 have n4_ := Aside0.mk (ho)
                 clear HO_4
                 clear BK325
                 clear BK330
                 clear HB
                 clear HO_331003
                 have HO_4 := n0_
                 have BK325 := n1_
                 have BK330 := n2_
                 have HB := n3_
                 have HO337 := n4_
                 clear n0_ n1_ n2_ n3_ n4_
                 clear ho hb hg hat
                 obtain ⟨Ao44, co44, eo44⟩ := Kd.R_slice HO337.out
                 (subst eo44)
                 refine hK.out _ _ ?_
                 clear hK K
                 refine norm_ (a' := ?_) ?_ ?_
                 rotate_left
                 ·show Act.put _ (some 73) _ = _
                  simp only [Act.put, List.setIfInBounds_toArray, List.set_cons_zero, List.set_cons_succ, i64_w, i32_w]
                  rfl
                 refine pure_ (i := 9) (N := some 74) (v := ?_) (a' := ?_) #[true, true, true, true, true, true, true, true, true, true, false] rfl rfl (any_of HT_.out (by kernel_rfl)) (fun _ _ _ h => h) (Or.inl ⟨by rfl, ?_⟩) ?_ ?_
                 rotate_left
                 ·intro w'
                  go_simp
                  with_reducible rfl
                 rotate_left
                 ·simp only [Act.put, List.setIfInBounds_toArray, List.set_cons_zero, List.set_cons_succ, i64_w, i32_w]
                  rfl
                 refine last_ (i := 10) (N := none) #[true, true, true, true, true, true, true, true, true, true, true] rfl rfl (one_of HT_.out (by kernel_rfl)) (by decide) (fun K hK => ?_)
                 have hs45 : w43.cell? ⟨gb330, 3, none⟩ = some (u331003) := (blk_cell BK330.out 3).trans rfl
                 have hfs45 := blk_frozen BK330.out 3
                 have hns45_0 := NB325_330.out
                 have hms45_0 := NB330_325.out
                 refine skip_ (w1 := ?_) (by rfl) rfl ?_ ?_
                 rotate_left
                 ·go_simp
                  rfl
                 refine hK.out _ _ ?_
                 clear hK K
                 refine done_ (done_of HT_.out (by kernel_rfl)) ?_
                 try go_wp2
                 go_roundg k5
                 case measure => have := HJ2.out; have := HK2.out; have := HJ24.out; have := HJ33.out; have := HK5.out; omega
                 case rel => exact ⟨(wrap64 (x9_5 + 1)), (y335), (.slice Ao44 y335.length co44), (by rfl), H', ⟨by have := HJ2.out; have := HK2.out; have := HJ24.out; have := HJ33.out; have := HK5.out; omega⟩, ⟨by (with_reducible repeat (apply Kd.R_drew)); exact Kd.R_mono (Kd.R_far (p := ⟨gb330, 3, none⟩) (Kd.R_types HO_4.out BK330.out (by decide)) (fun _ hk => hk.2) (.slice Ao44 y335.length co44)) (fun _ hk => trivial)⟩, ⟨by (with_reducible repeat (apply Kd.R_drew)); exact Kd.R_mono (Kd.R_far (p := ⟨gb330, 3, none⟩) (Kd.R_types HO337.out BK330.out (by decide)) (fun _ hk => hk.2) (.slice Ao44 y335.length co44)) (fun _ hk => trivial)⟩, ⟨by (with_reducible repeat (refine blk_drew ?_)); refine blk_far ?_ NB325_330.out _; (with_reducible repeat (refine blk_drew ?_)); exact BK325.out⟩, ⟨by (with_reducible repeat (refine blk_drew ?_)); refine blk_put (cs := #[.int .i64 x331000_2, .string ((rd_T91 t326 1).f2), .string x331002_33, u331003]) ?_ 3 _ rfl; (with_reducible repeat (refine blk_drew ?_)); exact BK330.out⟩, ⟨by repeat ((with_reducible first | exact HB.out | refine below_set ?_ GE330.out))⟩⟩
                ·rw [if_neg c41] at H
                 exact absurd H (by simp)
               ·rw [if_neg c40] at H
                exact absurd H (by simp)
              ·rw [if_neg c39] at H
               have c39b0 : decide (x9_5 < (t326.length : Int)) = false := decide_eq_false c39
               clear c39
               replace H := Option.bind_eq_some_iff.mp H
               obtain ⟨⟨t338, t339⟩, A460, H⟩ := H
               replace H : (if t339 = 0 then (if t338.toList = a0.toList then (some (x331000_2, ((rd_T91 t326 1).f2), x331002_33, x331003_5, 0)) else (some (0, (⟨#[]⟩ : ByteArray), (⟨#[]⟩ : ByteArray), ([] : List Int), 4))) else (some (0, (⟨#[]⟩ : ByteArray), (⟨#[]⟩ : ByteArray), ([] : List Int), 4))) = some (r1, r2, r3, r4, r5) := H
               have A46 := Aside0.mk A460
               clear A460
               by_cases c47 : t339 = 0
               ·rw [if_pos c47] at H
                have c47b0 : (t339 == 0) = true := beq_iff_eq.mpr c47
                have c47b1 : (t339 != 0) = false := bne_eq_false_iff_eq.mpr c47
                clear c47
                by_cases c48 : t338.toList = a0.toList
                ·rw [if_pos c48] at H
                 have c48b0 : (t338.toList == a0.toList) = true := beq_iff_eq.mpr c48
                 have c48b1 : (t338.toList != a0.toList) = false := bne_eq_false_iff_eq.mpr c48
                 clear c48
                 simp only [Option.some.injEq, Prod.mk.injEq] at H
                 obtain ⟨rfl, rfl, rfl, rfl, rfl⟩ := H
                 have hnb49 := NB330_325.out
                 have hnc49 := NB325_330.out
                 have hcz50_0 : wr.cell? ⟨gb330, 0, none⟩ = some (.int .i64 x331000_2) := (blk_cell BK330.out 0).trans rfl
                 have hcz50_1 : wr.cell? ⟨gb330, 1, none⟩ = some (.string ((rd_T91 t326 1).f2)) := (blk_cell BK330.out 1).trans rfl
                 have hcz50_2 : wr.cell? ⟨gb330, 2, none⟩ = some (.string x331002_33) := (blk_cell BK330.out 2).trans rfl
                 have hcz50_3 : wr.cell? ⟨gb330, 3, none⟩ = some (u331003) := (blk_cell BK330.out 3).trans rfl
                 have hfz50_0 := blk_frozen BK330.out 0
                 have hfz50_1 := blk_frozen BK330.out 1
                 have hfz50_2 := blk_frozen BK330.out 2
                 have hfz50_3 := blk_frozen BK330.out 3
                 obtain ⟨Ao51, co51, eo51⟩ := Kd.R_slice HO_331003.out
                 subst eo51
                 go_wp2_with (((with_reducible refine gate_callee (f := 21) rfl ?_); refine goesL_ (some 77) rfl rfl Tryd.func21 (by kernel_rfl) rfl #[.agg #[.int .i64 x331000_2, .string ((rd_T91 t326 1).f2), .string x331002_33, .slice Ao51 x331003_5.length co51]] rfl (by (try simp only [List.map_toArray, List.map_cons, List.map_nil]); rfl) ?_; (with_reducible refine (r21_Key.calls k5 x331000_2 ((rd_T91 t326 1).f2) x331002_33 _ _ x331003_5 t338 t339 _ ?side1 ?side2 A46.out).mono ?_); (case side1 => repeat (exact (Kd.R_reads' HO_331003.out).2.2)); (case side2 => exact (Kd.R_reads' HO_331003.out).2.1); rintro e w52 ⟨rfl, hb⟩; refine ⟨_, rfl, ?_⟩; have n0_ := Aside0.mk (Kd.R_below (by (with_reducible repeat (apply Kd.R_drew)); exact HO_4.out) hb); have n1_ := Aside0.mk (Kd.R_below (by (with_reducible repeat (apply Kd.R_drew)); exact HO_331003.out) hb); have n2_ := Aside0.mk (blk_below (g := gb325) (o := .cells #[.int .i64 0, .string (⟨#[]⟩ : ByteArray), .string (⟨#[]⟩ : ByteArray), .slice none 0 0] 25 (0, 0)) (by (with_reducible repeat (refine blk_drew ?_)); exact BK325.out) hb); have n3_ := Aside0.mk (blk_below (g := gb330) (o := .cells #[.int .i64 x331000_2, .string ((rd_T91 t326 1).f2), .string x331002_33, .slice Ao51 x331003_5.length co51] 25 (0, 0)) (by (with_reducible repeat (refine blk_drew ?_)); exact BK330.out) hb); have n4_ := Aside0.mk (below_step (by repeat ((with_reducible exact HB.out))) hb); clear HO_4; clear HO_331003; clear BK325; clear BK330; clear HB; have HO_4 := n0_; have HO_331003 := n1_; have BK325 := n2_; have BK330 := n3_; have HB := n4_; clear n0_ n1_ n2_ n3_ n4_; (try clear hb); (try clear hb2); (try clear hk); (try clear hi); have hcz53_0 : w52.cell? ⟨gb330, 0, none⟩ = some (.int .i64 x331000_2) := (blk_cell BK330.out 0).trans rfl; have hcz53_1 : w52.cell? ⟨gb330, 1, none⟩ = some (.string ((rd_T91 t326 1).f2)) := (blk_cell BK330.out 1).trans rfl; have hcz53_2 : w52.cell? ⟨gb330, 2, none⟩ = some (.string x331002_33) := (blk_cell BK330.out 2).trans rfl; have hcz53_3 : w52.cell? ⟨gb330, 3, none⟩ = some (.slice Ao51 x331003_5.length co51) := (blk_cell BK330.out 3).trans rfl; have hfz53_0 := blk_frozen BK330.out 0; have hfz53_1 := blk_frozen BK330.out 1; have hfz53_2 := blk_frozen BK330.out 2; have hfz53_3 := blk_frozen BK330.out 3; have hcz54_0 : w52.cell? ⟨gb325, 0, none⟩ = some (.int .i64 0) := (blk_cell BK325.out 0).trans rfl; have hcz54_1 : w52.cell? ⟨gb325, 1, none⟩ = some (.string (⟨#[]⟩ : ByteArray)) := (blk_cell BK325.out 1).trans rfl; have hcz54_2 : w52.cell? ⟨gb325, 2, none⟩ = some (.string (⟨#[]⟩ : ByteArray)) := (blk_cell BK325.out 2).trans rfl; have hcz54_3 : w52.cell? ⟨gb325, 3, none⟩ = some (.slice none 0 0) := (blk_cell BK325.out 3).trans rfl; have hfz54_0 := blk_frozen BK325.out 0; have hfz54_1 := blk_frozen BK325.out 1; have hfz54_2 := blk_frozen BK325.out 2; have hfz54_3 := blk_frozen BK325.out 3))
                 refine bodyPost_ret (results_ct rfl _ _ gb325 25 #[.int .i64 x331000_2, .string ((rd_T91 t326 1).f2), .string x331002_33, .slice Ao51 x331003_5.length co51] (0, 0) _ rfl (by (with_reducible repeat (refine blk_drew ?_)); refine blk_put (cs := #[.int .i64 x331000_2, .string ((rd_T91 t326 1).f2), .string x331002_33, .slice none 0 0]) ?_ 3 _ rfl; (with_reducible repeat (refine blk_drew ?_)); refine blk_put (cs := #[.int .i64 x331000_2, .string ((rd_T91 t326 1).f2), .string (⟨#[]⟩ : ByteArray), .slice none 0 0]) ?_ 2 _ rfl; (with_reducible repeat (refine blk_drew ?_)); refine blk_put (cs := #[.int .i64 x331000_2, .string (⟨#[]⟩ : ByteArray), .string (⟨#[]⟩ : ByteArray), .slice none 0 0]) ?_ 1 _ rfl; (with_reducible repeat (refine blk_drew ?_)); refine blk_put (cs := #[.int .i64 0, .string (⟨#[]⟩ : ByteArray), .string (⟨#[]⟩ : ByteArray), .slice none 0 0]) ?_ 0 _ rfl; (with_reducible repeat (refine blk_drew ?_)); exact BK325.out) Tryd.underlying25 rfl (by kernel_rfl)) rfl ?_
                 exact ⟨_, by rfl, by (with_reducible repeat (apply Kd.R_drew)); exact Kd.R_mono (Kd.R_far (p := ⟨gb325, 3, none⟩) (Kd.R_far (p := ⟨gb325, 2, none⟩) (Kd.R_far (p := ⟨gb325, 1, none⟩) (Kd.R_far (p := ⟨gb325, 0, none⟩) (Kd.R_types HO_331003.out BK325.out (by decide)) (fun _ hk => hk.2) (.int .i64 x331000_2)) (fun _ hk => hk.2) (.string ((rd_T91 t326 1).f2))) (fun _ hk => hk.2) (.string x331002_33)) (fun _ hk => hk.2) (.slice Ao51 x331003_5.length co51)) (fun _ hk => trivial), by repeat ((with_reducible first | exact HB.out | refine below_set ?_ GE325.out))⟩
                ·rw [if_neg c48] at H
                 have c48b0 : (t338.toList == a0.toList) = false := beq_eq_false_iff_ne.mpr c48
                 have c48b1 : (t338.toList != a0.toList) = true := bne_iff_ne.mpr c48
                 simp only [Option.some.injEq, Prod.mk.injEq] at H
                 obtain ⟨rfl, rfl, rfl, rfl, rfl⟩ := H
                 have hnb55 := NB330_325.out
                 have hnc55 := NB325_330.out
                 have hcz56_0 : wr.cell? ⟨gb330, 0, none⟩ = some (.int .i64 x331000_2) := (blk_cell BK330.out 0).trans rfl
                 have hcz56_1 : wr.cell? ⟨gb330, 1, none⟩ = some (.string ((rd_T91 t326 1).f2)) := (blk_cell BK330.out 1).trans rfl
                 have hcz56_2 : wr.cell? ⟨gb330, 2, none⟩ = some (.string x331002_33) := (blk_cell BK330.out 2).trans rfl
                 have hcz56_3 : wr.cell? ⟨gb330, 3, none⟩ = some (u331003) := (blk_cell BK330.out 3).trans rfl
                 have hfz56_0 := blk_frozen BK330.out 0
                 have hfz56_1 := blk_frozen BK330.out 1
                 have hfz56_2 := blk_frozen BK330.out 2
                 have hfz56_3 := blk_frozen BK330.out 3
                 obtain ⟨Ao57, co57, eo57⟩ := Kd.R_slice HO_331003.out
                 subst eo57
                 go_wp2_with (((with_reducible refine gate_callee (f := 21) rfl ?_); refine goesL_ (some 77) rfl rfl Tryd.func21 (by kernel_rfl) rfl #[.agg #[.int .i64 x331000_2, .string ((rd_T91 t326 1).f2), .string x331002_33, .slice Ao57 x331003_5.length co57]] rfl (by (try simp only [List.map_toArray, List.map_cons, List.map_nil]); rfl) ?_; (with_reducible refine (r21_Key.calls k5 x331000_2 ((rd_T91 t326 1).f2) x331002_33 _ _ x331003_5 t338 t339 _ ?side1 ?side2 A46.out).mono ?_); (case side1 => repeat (exact (Kd.R_reads' HO_331003.out).2.2)); (case side2 => exact (Kd.R_reads' HO_331003.out).2.1); rintro e w58 ⟨rfl, hb⟩; refine ⟨_, rfl, ?_⟩; have n0_ := Aside0.mk (Kd.R_below (by (with_reducible repeat (apply Kd.R_drew)); exact HO_4.out) hb); have n1_ := Aside0.mk (Kd.R_below (by (with_reducible repeat (apply Kd.R_drew)); exact HO_331003.out) hb); have n2_ := Aside0.mk (blk_below (g := gb325) (o := .cells #[.int .i64 0, .string (⟨#[]⟩ : ByteArray), .string (⟨#[]⟩ : ByteArray), .slice none 0 0] 25 (0, 0)) (by (with_reducible repeat (refine blk_drew ?_)); exact BK325.out) hb); have n3_ := Aside0.mk (blk_below (g := gb330) (o := .cells #[.int .i64 x331000_2, .string ((rd_T91 t326 1).f2), .string x331002_33, .slice Ao57 x331003_5.length co57] 25 (0, 0)) (by (with_reducible repeat (refine blk_drew ?_)); exact BK330.out) hb); have n4_ := Aside0.mk (below_step (by repeat ((with_reducible exact HB.out))) hb); clear HO_4; clear HO_331003; clear BK325; clear BK330; clear HB; have HO_4 := n0_; have HO_331003 := n1_; have BK325 := n2_; have BK330 := n3_; have HB := n4_; clear n0_ n1_ n2_ n3_ n4_; (try clear hb); (try clear hb2); (try clear hk); (try clear hi); have hcz59_0 : w58.cell? ⟨gb325, 0, none⟩ = some (.int .i64 0) := (blk_cell BK325.out 0).trans rfl; have hcz59_1 : w58.cell? ⟨gb325, 1, none⟩ = some (.string (⟨#[]⟩ : ByteArray)) := (blk_cell BK325.out 1).trans rfl; have hcz59_2 : w58.cell? ⟨gb325, 2, none⟩ = some (.string (⟨#[]⟩ : ByteArray)) := (blk_cell BK325.out 2).trans rfl; have hcz59_3 : w58.cell? ⟨gb325, 3, none⟩ = some (.slice none 0 0) := (blk_cell BK325.out 3).trans rfl; have hfz59_0 := blk_frozen BK325.out 0; have hfz59_1 := blk_frozen BK325.out 1; have hfz59_2 := blk_frozen BK325.out 2; have hfz59_3 := blk_frozen BK325.out 3))
                 refine bodyPost_ret (results_ct rfl _ _ gb325 25 #[.int .i64 0, .string (⟨#[]⟩ : ByteArray), .string (⟨#[]⟩ : ByteArray), .slice none 0 0] (0, 0) _ rfl (by (with_reducible repeat (refine blk_drew ?_)); refine blk_put (cs := #[.int .i64 0, .string (⟨#[]⟩ : ByteArray), .string (⟨#[]⟩ : ByteArray), .slice none 0 0]) ?_ 3 _ rfl; (with_reducible repeat (refine blk_drew ?_)); refine blk_put (cs := #[.int .i64 0, .string (⟨#[]⟩ : ByteArray), .string (⟨#[]⟩ : ByteArray), .slice none 0 0]) ?_ 2 _ rfl; (with_reducible repeat (refine blk_drew ?_)); refine blk_put (cs := #[.int .i64 0, .string (⟨#[]⟩ : ByteArray), .string (⟨#[]⟩ : ByteArray), .slice none 0 0]) ?_ 1 _ rfl; (with_reducible repeat (refine blk_drew ?_)); refine blk_put (cs := #[.int .i64 0, .string (⟨#[]⟩ : ByteArray), .string (⟨#[]⟩ : ByteArray), .slice none 0 0]) ?_ 0 _ rfl; (with_reducible repeat (refine blk_drew ?_)); exact BK325.out) Tryd.underlying25 rfl (by kernel_rfl)) rfl ?_
                 exact ⟨_, by rfl, by exact Kd.R_nil _ _ _ _ _, by repeat ((with_reducible first | exact HB.out | refine below_set ?_ GE325.out))⟩
               ·rw [if_neg c47] at H
                have c47b0 : (t339 == 0) = false := beq_eq_false_iff_ne.mpr c47
                have c47b1 : (t339 != 0) = true := bne_iff_ne.mpr c47
                simp only [Option.some.injEq, Prod.mk.injEq] at H
                obtain ⟨rfl, rfl, rfl, rfl, rfl⟩ := H
                have hnb60 := NB330_325.out
                have hnc60 := NB325_330.out
                have hcz61_0 : wr.cell? ⟨gb330, 0, none⟩ = some (.int .i64 x331000_2) := (blk_cell BK330.out 0).trans rfl
                have hcz61_1 : wr.cell? ⟨gb330, 1, none⟩ = some (.string ((rd_T91 t326 1).f2)) := (blk_cell BK330.out 1).trans rfl
                have hcz61_2 : wr.cell? ⟨gb330, 2, none⟩ = some (.string x331002_33) := (blk_cell BK330.out 2).trans rfl
                have hcz61_3 : wr.cell? ⟨gb330, 3, none⟩ = some (u331003) := (blk_cell BK330.out 3).trans rfl
                have hfz61_0 := blk_frozen BK330.out 0
                have hfz61_1 := blk_frozen BK330.out 1
                have hfz61_2 := blk_frozen BK330.out 2
                have hfz61_3 := blk_frozen BK330.out 3
                obtain ⟨Ao62, co62, eo62⟩ := Kd.R_slice HO_331003.out
                subst eo62
                go_wp2_with (((with_reducible refine gate_callee (f := 21) rfl ?_); refine goesL_ (some 77) rfl rfl Tryd.func21 (by kernel_rfl) rfl #[.agg #[.int .i64 x331000_2, .string ((rd_T91 t326 1).f2), .string x331002_33, .slice Ao62 x331003_5.length co62]] rfl (by (try simp only [List.map_toArray, List.map_cons, List.map_nil]); rfl) ?_; (with_reducible refine (r21_Key.calls k5 x331000_2 ((rd_T91 t326 1).f2) x331002_33 _ _ x331003_5 t338 t339 _ ?side1 ?side2 A46.out).mono ?_); (case side1 => repeat (exact (Kd.R_reads' HO_331003.out).2.2)); (case side2 => exact (Kd.R_reads' HO_331003.out).2.1); rintro e w63 ⟨rfl, hb⟩; refine ⟨_, rfl, ?_⟩; have n0_ := Aside0.mk (Kd.R_below (by (with_reducible repeat (apply Kd.R_drew)); exact HO_4.out) hb); have n1_ := Aside0.mk (Kd.R_below (by (with_reducible repeat (apply Kd.R_drew)); exact HO_331003.out) hb); have n2_ := Aside0.mk (blk_below (g := gb325) (o := .cells #[.int .i64 0, .string (⟨#[]⟩ : ByteArray), .string (⟨#[]⟩ : ByteArray), .slice none 0 0] 25 (0, 0)) (by (with_reducible repeat (refine blk_drew ?_)); exact BK325.out) hb); have n3_ := Aside0.mk (blk_below (g := gb330) (o := .cells #[.int .i64 x331000_2, .string ((rd_T91 t326 1).f2), .string x331002_33, .slice Ao62 x331003_5.length co62] 25 (0, 0)) (by (with_reducible repeat (refine blk_drew ?_)); exact BK330.out) hb); have n4_ := Aside0.mk (below_step (by repeat ((with_reducible exact HB.out))) hb); clear HO_4; clear HO_331003; clear BK325; clear BK330; clear HB; have HO_4 := n0_; have HO_331003 := n1_; have BK325 := n2_; have BK330 := n3_; have HB := n4_; clear n0_ n1_ n2_ n3_ n4_; (try clear hb); (try clear hb2); (try clear hk); (try clear hi); have hcz64_0 : w63.cell? ⟨gb325, 0, none⟩ = some (.int .i64 0) := (blk_cell BK325.out 0).trans rfl; have hcz64_1 : w63.cell? ⟨gb325, 1, none⟩ = some (.string (⟨#[]⟩ : ByteArray)) := (blk_cell BK325.out 1).trans rfl; have hcz64_2 : w63.cell? ⟨gb325, 2, none⟩ = some (.string (⟨#[]⟩ : ByteArray)) := (blk_cell BK325.out 2).trans rfl; have hcz64_3 : w63.cell? ⟨gb325, 3, none⟩ = some (.slice none 0 0) := (blk_cell BK325.out 3).trans rfl; have hfz64_0 := blk_frozen BK325.out 0; have hfz64_1 := blk_frozen BK325.out 1; have hfz64_2 := blk_frozen BK325.out 2; have hfz64_3 := blk_frozen BK325.out 3))
                refine bodyPost_ret (results_ct rfl _ _ gb325 25 #[.int .i64 0, .string (⟨#[]⟩ : ByteArray), .string (⟨#[]⟩ : ByteArray), .slice none 0 0] (0, 0) _ rfl (by (with_reducible repeat (refine blk_drew ?_)); refine blk_put (cs := #[.int .i64 0, .string (⟨#[]⟩ : ByteArray), .string (⟨#[]⟩ : ByteArray), .slice none 0 0]) ?_ 3 _ rfl; (with_reducible repeat (refine blk_drew ?_)); refine blk_put (cs := #[.int .i64 0, .string (⟨#[]⟩ : ByteArray), .string (⟨#[]⟩ : ByteArray), .slice none 0 0]) ?_ 2 _ rfl; (with_reducible repeat (refine blk_drew ?_)); refine blk_put (cs := #[.int .i64 0, .string (⟨#[]⟩ : ByteArray), .string (⟨#[]⟩ : ByteArray), .slice none 0 0]) ?_ 1 _ rfl; (with_reducible repeat (refine blk_drew ?_)); refine blk_put (cs := #[.int .i64 0, .string (⟨#[]⟩ : ByteArray), .string (⟨#[]⟩ : ByteArray), .slice none 0 0]) ?_ 0 _ rfl; (with_reducible repeat (refine blk_drew ?_)); exact BK325.out) Tryd.underlying25 rfl (by kernel_rfl)) rfl ?_
                exact ⟨_, by rfl, by exact Kd.R_nil _ _ _ _ _, by repeat ((with_reducible first | exact HB.out | refine below_set ?_ GE325.out))⟩
       ·rw [if_neg c24] at H
        exact absurd H (by simp)

end Go.Proofs.YtbdfmjgndeigpaaDoor.P
