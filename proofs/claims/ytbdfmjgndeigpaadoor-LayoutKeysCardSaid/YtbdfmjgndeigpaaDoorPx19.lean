-- by xprint (this session's program over the kit's printer)
import Derived.Test.YtbdfmjgndeigpaaDoorPx0
namespace Go.Proofs.YtbdfmjgndeigpaaDoor.P
open Go.RowKit Go.Proofs.YtbdfmjgndeigpaaDoorW.PrintWords Go.Proofs.YtbdfmjgndeigpaaDoorW.PrintLast Go.Proofs.YtbdfmjgndeigpaaDoorW.PrintMore
attribute [local go_sem] max2_int min2_int max_two min_two max_three min_three max_four min_four   -- for this text's walks alone
set_option linter.unusedVariables false
set_option linter.unusedSimpArgs false

/-! ### r21_parts: function 51 -/
mutual
def r21_parts.j0 : Nat → List (S91) → Int → ByteArray → ByteArray → List Int → Option ((List (S91)))
 | 0, _, _, _, _, _ => none
 | k + 1, x3, x255000, x255001, x255002, x255003 => if x255002.toList = ([] : List UInt8) then (r21_parts.j1 k x3 x255000 x255001 x255002 x255003) else (if x3.length < 4398046511104 then (r21_parts.j1 k (x3 ++ [(⟨1, 0, x255002⟩ : S91)]) x255000 x255001 x255002 x255003) else (none))
def r21_parts.j1 : Nat → List (S91) → Int → ByteArray → ByteArray → List Int → Option ((List (S91)))
 | 0, _, _, _, _, _ => none
 | k + 1, x3, x255000, x255001, x255002, x255003 => r21_parts.l0 k x3 0 x255000 x255001 x255002 x255003
def r21_parts.l0 : Nat → List (S91) → Int → Int → ByteArray → ByteArray → List Int → Option ((List (S91)))
 | 0, _, _, _, _, _, _ => none
 | k + 1, x3, x4, x255000, x255001, x255002, x255003 => if x4 < (x255003.length : Int) then (if 0 ≤ x4 then (if x255000 = 2 then (if x3.length < 4398046511104 then (r21_parts.l0 k (x3 ++ [(⟨3, rd x255003 x4, (⟨#[]⟩ : ByteArray)⟩ : S91)]) (wrap64 (x4 + 1)) x255000 x255001 x255002 x255003) else (none)) else (if x3.length < 4398046511104 then (r21_parts.l0 k (x3 ++ [(⟨2, rd x255003 x4, (⟨#[]⟩ : ByteArray)⟩ : S91)]) (wrap64 (x4 + 1)) x255000 x255001 x255002 x255003) else (none))) else (none)) else (some x3)
end
def r21_parts.f (k : Nat) (a0_0 : Int) (a0_1 : ByteArray) (a0_2 : ByteArray) (l0_3 : List Int) : Option ((List (S91))) := if 0 ≤ (wrap64 (a0_0 - 1)) then (if (wrap64 (a0_0 - 1)) ≤ a0_0 then (if a0_0 ≤ 6 then ((some (([(⟨1, 0, (⟨#[98, 111, 99, 117, 112, 113]⟩ : ByteArray).extract ((wrap64 (a0_0 - 1)) : Int).toNat (a0_0 : Int).toNat⟩ : S91)] : List (S91)) : List (S91))).bind fun y255 => (if a0_1.toList = ([] : List UInt8) then (r21_parts.j0 k y255 a0_0 a0_1 a0_2 l0_3) else (if y255.length < 4398046511104 then (r21_parts.j0 k (y255 ++ [(⟨1, 0, a0_1⟩ : S91)]) a0_0 a0_1 a0_2 l0_3) else (none)))) else (none)) else (none)) else (none)
theorem r21_parts.mono_l : ∀ k, (∀ y0 y1 y2 y3 y4, LeO (r21_parts.j0 k y0 y1 y2 y3 y4) (r21_parts.j0 (k + 1) y0 y1 y2 y3 y4)) ∧ (∀ y0 y1 y2 y3 y4, LeO (r21_parts.j1 k y0 y1 y2 y3 y4) (r21_parts.j1 (k + 1) y0 y1 y2 y3 y4)) ∧ (∀ y0 y1 y2 y3 y4 y5, LeO (r21_parts.l0 k y0 y1 y2 y3 y4 y5) (r21_parts.l0 (k + 1) y0 y1 y2 y3 y4 y5))
 | 0 => ⟨fun _ _ _ _ _ r h => by simp [r21_parts.j0] at h, fun _ _ _ _ _ r h => by simp [r21_parts.j1] at h, fun _ _ _ _ _ _ r h => by simp [r21_parts.l0] at h⟩
 | k + 1 => by
  obtain ⟨ih0, ih1, ih2⟩ := r21_parts.mono_l k
  refine ⟨?_, ?_, ?_⟩
  ·intro y0 y1 y2 y3 y4
   unfold r21_parts.j0
   repeat' first
   | (with_reducible exact ih0 _ _ _ _ _)
   | (with_reducible exact ih1 _ _ _ _ _)
   | (with_reducible exact ih2 _ _ _ _ _ _)
   | (with_reducible exact LeO.refl _)
   | (with_reducible exact LeO.none _)
   | (with_reducible refine LeO.ite ?_ ?_)
   | (with_reducible refine LeO.bind ?_ (fun _ => ?_))
   | exact ih0 _ _ _ _ _
   | exact ih1 _ _ _ _ _
   | exact ih2 _ _ _ _ _ _
   | exact LeO.none _
   | refine LeO.ite ?_ ?_
   | refine LeO.bind ?_ (fun _ => ?_)
  ·intro y0 y1 y2 y3 y4
   unfold r21_parts.j1
   repeat' first
   | (with_reducible exact ih0 _ _ _ _ _)
   | (with_reducible exact ih1 _ _ _ _ _)
   | (with_reducible exact ih2 _ _ _ _ _ _)
   | (with_reducible exact LeO.refl _)
   | (with_reducible exact LeO.none _)
   | (with_reducible refine LeO.ite ?_ ?_)
   | (with_reducible refine LeO.bind ?_ (fun _ => ?_))
   | exact ih0 _ _ _ _ _
   | exact ih1 _ _ _ _ _
   | exact ih2 _ _ _ _ _ _
   | exact LeO.none _
   | refine LeO.ite ?_ ?_
   | refine LeO.bind ?_ (fun _ => ?_)
  ·intro y0 y1 y2 y3 y4 y5
   unfold r21_parts.l0
   repeat' first
   | (with_reducible exact ih0 _ _ _ _ _)
   | (with_reducible exact ih1 _ _ _ _ _)
   | (with_reducible exact ih2 _ _ _ _ _ _)
   | (with_reducible exact LeO.refl _)
   | (with_reducible exact LeO.none _)
   | (with_reducible refine LeO.ite ?_ ?_)
   | (with_reducible refine LeO.bind ?_ (fun _ => ?_))
   | exact ih0 _ _ _ _ _
   | exact ih1 _ _ _ _ _
   | exact ih2 _ _ _ _ _ _
   | exact LeO.none _
   | refine LeO.ite ?_ ?_
   | refine LeO.bind ?_ (fun _ => ?_)
theorem r21_parts.mono : ∀ a0 a1 a2 a3 k, LeO (r21_parts.f k a0 a1 a2 a3) (r21_parts.f (k + 1) a0 a1 a2 a3) := by
 intro a0 a1 a2 a3 k
 obtain ⟨ih0, ih1, ih2⟩ := r21_parts.mono_l k
 unfold r21_parts.f
 repeat' first
   | (with_reducible exact ih0 _ _ _ _ _)
   | (with_reducible exact ih1 _ _ _ _ _)
   | (with_reducible exact ih2 _ _ _ _ _ _)
   | (with_reducible exact LeO.refl _)
   | (with_reducible exact LeO.none _)
   | (with_reducible refine LeO.ite ?_ ?_)
   | (with_reducible refine LeO.bind ?_ (fun _ => ?_))
   | exact ih0 _ _ _ _ _
   | exact ih1 _ _ _ _ _
   | exact ih2 _ _ _ _ _ _
   | exact LeO.none _
   | refine LeO.ite ?_ ?_
   | refine LeO.bind ?_ (fun _ => ?_)
set_option maxHeartbeats 8000000 in
set_option maxRecDepth 100000 in
theorem r21_parts.calls (k : Nat) (a0_0 : Int) (a0_1 : ByteArray) (a0_2 : ByteArray) (A0_3 : Option Addr) (c0_3 : Nat) (l0_3 : List Int) (r : List (S91)) (w : World) (hr0_3 : Kd.C (Kd.int .i64) w A0_3 l0_3.length l0_3) (hc0_3 : l0_3.length ≤ c0_3) (h : r21_parts.f k a0_0 a0_1 a0_2 l0_3 = some r) :
  Calls Tryd.prog 51 #[.agg #[.int .i64 a0_0, .string a0_1, .string a0_2, .slice A0_3 l0_3.length c0_3]] w fun e w' => ∃ v0_ : Value, e = .returned (v0_) ∧ Kd.R k91 91 w' w.heap.size (fun _ => True) v0_ r ∧ Below w.heap.size w w' := by
 have hu25 := Tryd.underlying25
 have hu91 := Tryd.underlying91
 have HR0_3 := Aside0.mk hr0_3
 have HC0_3 := Aside0.mk hc0_3
 clear hr0_3 hc0_3
 have HB := Aside0.mk (Below.refl w.heap.size w)
 have H : (if 0 ≤ (wrap64 (a0_0 - 1)) then (if (wrap64 (a0_0 - 1)) ≤ a0_0 then (if a0_0 ≤ 6 then ((some (([(⟨1, 0, (⟨#[98, 111, 99, 117, 112, 113]⟩ : ByteArray).extract ((wrap64 (a0_0 - 1)) : Int).toNat (a0_0 : Int).toNat⟩ : S91)] : List (S91)) : List (S91))).bind fun y255 => (if a0_1.toList = ([] : List UInt8) then (r21_parts.j0 k y255 a0_0 a0_1 a0_2 l0_3) else (if y255.length < 4398046511104 then (r21_parts.j0 k (y255 ++ [(⟨1, 0, a0_1⟩ : S91)]) a0_0 a0_1 a0_2 l0_3) else (none)))) else (none)) else (none)) else (none)) = some r := h
 clear h
 obtain ⟨ji2, hji2⟩ : ∃ j_ : Int, (wrap64 (a0_0 - 1)) = j_ := ⟨_, rfl⟩
 replace H : (if 0 ≤ (ji2) then (if (ji2) ≤ a0_0 then (if a0_0 ≤ 6 then ((some (([(⟨1, 0, (⟨#[98, 111, 99, 117, 112, 113]⟩ : ByteArray).extract ((ji2) : Int).toNat (a0_0 : Int).toNat⟩ : S91)] : List (S91)) : List (S91))).bind fun y255 => (if a0_1.toList = ([] : List UInt8) then (r21_parts.j0 k y255 a0_0 a0_1 a0_2 l0_3) else (if y255.length < 4398046511104 then (r21_parts.j0 k (y255 ++ [(⟨1, 0, a0_1⟩ : S91)]) a0_0 a0_1 a0_2 l0_3) else (none)))) else (none)) else (none)) else (none)) = some r := by (rw [hji2] at H; exact H)
 have hji2w : (IntKind.i64.wrap (a0_0 - 1)) = ji2 := (i64_w _).trans hji2
 by_cases c3 : 0 ≤ (ji2)
 ·rw [if_pos c3] at H
  have c3b0 := eq_true c3
  have c3b1 : decide (0 ≤ (ji2)) = true := decide_eq_true c3
  clear c3
  by_cases c4 : (ji2) ≤ a0_0
  ·rw [if_pos c4] at H
   have c4b0 := eq_true c4
   have c4b1 : decide ((ji2) ≤ a0_0) = true := decide_eq_true c4
   clear c4
   by_cases c5 : a0_0 ≤ 6
   ·rw [if_pos c5] at H
    have c5b0 := eq_true c5
    have c5b1 : decide (a0_0 ≤ 6) = true := decide_eq_true c5
    clear c5
    obtain ⟨y255, hy255⟩ : ∃ y_ : List (S91), y_ = (([(⟨1, 0, (⟨#[98, 111, 99, 117, 112, 113]⟩ : ByteArray).extract ((ji2) : Int).toNat (a0_0 : Int).toNat⟩ : S91)] : List (S91))) := ⟨_, rfl⟩
    replace H : (if a0_1.toList = ([] : List UInt8) then (r21_parts.j0 k y255 a0_0 a0_1 a0_2 l0_3) else (if y255.length < 4398046511104 then (r21_parts.j0 k (y255 ++ [(⟨1, 0, a0_1⟩ : S91)]) a0_0 a0_1 a0_2 l0_3) else (none))) = some r := by (have H2_ := (Option.bind_some _ _).symm.trans H; rw [hy255]; with_reducible exact H2_)
    have Ny255 := Aside0.mk hy255
    clear hy255
    have HC6 := Aside0.mk H
    clear H
    go_enter Tryd.func51, Tryd.ntmps51
    go_upto_if 16 with (first | ((with_reducible refine gate_dst (N := 1) rfl ?_); refine box_event ?hg (N := 1) ?hd (cs := #[.int .i64 a0_0, .string a0_1, .string a0_2, .slice A0_3 l0_3.length c0_3]) (t := 25) ?hr ?_; (case hd => rfl); (case hg => rfl); (case hr => (go_simp; done)); intro gb254 hg w7 hbox hb; have n0_ := Aside0.mk (below_step (by repeat ((with_reducible exact HB.out))) hb); have n1_ := Aside0.mk (hbox); have n2_ := Aside0.mk ((by rw [hg]; exact (below_size (by repeat ((with_reducible exact HB.out)))) : w.heap.size ≤ gb254)); have n3_ := Aside0.mk ((by rw [hg]; exact (below_size (by repeat ((with_reducible exact HB.out)))) : w.heap.size ≤ gb254)); clear HB; have HB := n0_; have BK254 := n1_; have GW254 := n2_; have GE254 := n3_; clear n0_ n1_ n2_ n3_; clear hb hbox hg; have hcz8_0 : w7.cell? ⟨gb254, 0, none⟩ = some (.int .i64 a0_0) := (blk_cell BK254.out 0).trans rfl; have hcz8_1 : w7.cell? ⟨gb254, 1, none⟩ = some (.string a0_1) := (blk_cell BK254.out 1).trans rfl; have hcz8_2 : w7.cell? ⟨gb254, 2, none⟩ = some (.string a0_2) := (blk_cell BK254.out 2).trans rfl; have hcz8_3 : w7.cell? ⟨gb254, 3, none⟩ = some (.slice A0_3 l0_3.length c0_3) := (blk_cell BK254.out 3).trans rfl; have hfz8_0 := blk_frozen BK254.out 0; have hfz8_1 := blk_frozen BK254.out 1; have hfz8_2 := blk_frozen BK254.out 2; have hfz8_3 := blk_frozen BK254.out 3) | ((with_reducible refine gate_dst (N := 13) rfl ?_); refine Kd.R_lit k91 _ 91 ?hg (N := 13) ?hd (xs := ([(⟨1, 0, (⟨#[98, 111, 99, 117, 112, 113]⟩ : ByteArray).extract ((ji2) : Int).toNat (a0_0 : Int).toNat⟩ : S91)] : List (S91))) (inner := [.int .i64 1, .int .i64 0, .string ((⟨#[98, 111, 99, 117, 112, 113]⟩ : ByteArray).extract ((ji2) : Int).toNat (a0_0 : Int).toNat)]) (ok := fun _ => True) (okp := fun _ => True) ?hr ?hp (fun _ hk => hk) trivial (Below.refl _ _) (Nat.le_refl _) (by simp) ?_; (case hd => rfl); (case hg => rfl); (case hr => (go_simp; done)); (case hp => exact (Reps.c3 (show Kd.M k91 _ _ _ (⟨1, 0, (⟨#[98, 111, 99, 117, 112, 113]⟩ : ByteArray).extract ((ji2) : Int).toNat (a0_0 : Int).toNat⟩ : S91) [.int .i64 1, .int .i64 0, .string ((⟨#[98, 111, 99, 117, 112, 113]⟩ : ByteArray).extract ((ji2) : Int).toNat (a0_0 : Int).toNat)] from (k91_mkM _ _ _ (⟨1, 0, (⟨#[98, 111, 99, 117, 112, 113]⟩ : ByteArray).extract ((ji2) : Int).toNat (a0_0 : Int).toNat⟩ : S91) )) (Reps.none _ _))); intro v256 w9 ho10 hb hg_ hnew_; clear hg_ hnew_; (rw [← Ny255.out] at ho10); have n0_ := Aside0.mk (Kd.R_lower ho10 (below_size (by repeat ((with_reducible exact HB.out))))); have n1_ := Aside0.mk (blk_below (g := gb254) (o := .cells #[.int .i64 a0_0, .string a0_1, .string a0_2, .slice A0_3 l0_3.length c0_3] 25 (0, 0)) (by (with_reducible repeat (refine blk_drew ?_)); exact BK254.out) hb); have n2_ := Aside0.mk (below_step (by repeat ((with_reducible exact HB.out))) hb); clear BK254; clear HB; have HO257 := n0_; have BK254 := n1_; have HB := n2_; clear n0_ n1_ n2_; clear hb ho10; have hcz11_0 : w9.cell? ⟨gb254, 0, none⟩ = some (.int .i64 a0_0) := (blk_cell BK254.out 0).trans rfl; have hcz11_1 : w9.cell? ⟨gb254, 1, none⟩ = some (.string a0_1) := (blk_cell BK254.out 1).trans rfl; have hcz11_2 : w9.cell? ⟨gb254, 2, none⟩ = some (.string a0_2) := (blk_cell BK254.out 2).trans rfl; have hcz11_3 : w9.cell? ⟨gb254, 3, none⟩ = some (.slice A0_3 l0_3.length c0_3) := (blk_cell BK254.out 3).trans rfl; have hfz11_0 := blk_frozen BK254.out 0; have hfz11_1 := blk_frozen BK254.out 1; have hfz11_2 := blk_frozen BK254.out 2; have hfz11_3 := blk_frozen BK254.out 3))
    (try simp only [Act.put, List.setIfInBounds_toArray, List.set_cons_zero, List.set_cons_succ])
    go_cut [3] (fun v3 wc => ∃ (kq : Nat) (x3_5 : List (S91)), Aside0 (r21_parts.j0 kq x3_5 a0_0 a0_1 a0_2 l0_3 = some r) ∧ Aside0 (kq ≤ k) ∧ Aside0 (Kd.R k91 91 wc w.heap.size (fun _ => True) v3 x3_5) ∧ Aside0 (wc.heap[gb254]? = some (.cells #[.int .i64 a0_0, .string a0_1, .string a0_2, (.slice A0_3 l0_3.length c0_3)] 25 (0, 0))) ∧ Aside0 (Below w.heap.size w wc))
    case first =>
     have H := HC6.out
     clear HC6
     by_cases c12 : a0_1.toList = ([] : List UInt8)
     ·rw [if_pos c12] at H
      have c12b0 : (a0_1.toList == ([] : List UInt8)) = true := beq_iff_eq.mpr c12
      have c12b1 : (a0_1.toList != ([] : List UInt8)) = false := bne_eq_false_iff_eq.mpr c12
      have c12b3 : a0_1.toList.isEmpty = true := by rw [← c12b0]; generalize a0_1.toList = z_; cases z_ <;> rfl
      clear c12
      (rw [c12b3])
      have H' := Aside0.mk H
      clear H
      go_wp2
      go_meet
      case rel => exact ⟨_, (y255), H', ⟨by omega⟩, ⟨by (with_reducible repeat (apply Kd.R_drew)); exact HO257.out⟩, ⟨by (with_reducible repeat (refine blk_drew ?_)); exact BK254.out⟩, ⟨by repeat ((with_reducible exact HB.out))⟩⟩
     ·rw [if_neg c12] at H
      have c12b0 : (a0_1.toList == ([] : List UInt8)) = false := beq_eq_false_iff_ne.mpr c12
      have c12b1 : (a0_1.toList != ([] : List UInt8)) = true := bne_iff_ne.mpr c12
      have c12b3 : a0_1.toList.isEmpty = false := by rw [← c12b0]; generalize a0_1.toList = z_; cases z_ <;> rfl
      (rw [c12b3])
      by_cases c13 : y255.length < 4398046511104
      ·rw [if_pos c13] at H
       have LMc13 := Aside0.mk c13
       clear c13
       obtain ⟨y258, hy258⟩ : ∃ y_ : List (S91), y_ = (y255 ++ [(⟨1, 0, a0_1⟩ : S91)]) := ⟨_, rfl⟩
       replace H : (r21_parts.j0 k y258 a0_0 a0_1 a0_2 l0_3) = some r := by (rw [hy258]; with_reducible exact H)
       have Ny258 := Aside0.mk hy258
       clear hy258
       have H' := Aside0.mk H
       clear H
       have hcz14_0 : w9.cell? ⟨gb254, 0, none⟩ = some (.int .i64 a0_0) := (blk_cell BK254.out 0).trans rfl
       have hcz14_1 : w9.cell? ⟨gb254, 1, none⟩ = some (.string a0_1) := (blk_cell BK254.out 1).trans rfl
       have hcz14_2 : w9.cell? ⟨gb254, 2, none⟩ = some (.string a0_2) := (blk_cell BK254.out 2).trans rfl
       have hcz14_3 : w9.cell? ⟨gb254, 3, none⟩ = some (.slice A0_3 l0_3.length c0_3) := (blk_cell BK254.out 3).trans rfl
       have hfz14_0 := blk_frozen BK254.out 0
       have hfz14_1 := blk_frozen BK254.out 1
       have hfz14_2 := blk_frozen BK254.out 2
       have hfz14_3 := blk_frozen BK254.out 3
       go_wp2_with (((with_reducible refine gate_builtin (b := .append) (xs := #[.tmp 17, .tmp 21]) rfl ?_); at_builtin; refine Kd.R_append k91 (w0 := w) w.heap.size rfl (.tmp 17) (.tmp 21) 85 91 (.agg #[(.int .i64 0), (.int .i64 0), (.string ⟨#[]⟩)]) 32 rfl Tryd.underlying85 info91 rfl (by decide) (by omega) v256 y255 (⟨1, 0, a0_1⟩ : S91) [.int .i64 1, .int .i64 0, .string a0_1] (fun _ => True) (fun _ => False) rfl rfl ?aP (fun _ hk => hk.elim) ?aF ?aO ?aB ?aS ?aL ?_; (case aP => exact k91_mkM _ _ _ (⟨1, 0, a0_1⟩ : S91)); (case aB => exact (by repeat ((with_reducible exact HB.out)))); (case aF => exact (fun _ _ => trivial)); (case aO => exact (by (with_reducible repeat (apply Kd.R_drew)); exact HO257.out)); (case aS => exact (below_size (by repeat ((with_reducible exact HB.out))))); (case aL => have := LMc13.out; omega); intro v259 w15 ho hb hg hat; rw [← Ny258.out] at ho; have n0_ := Aside0.mk (blk_grown (g := gb254) (o := .cells #[.int .i64 a0_0, .string a0_1, .string a0_2, .slice A0_3 l0_3.length c0_3] 25 (0, 0)) (by (with_reducible repeat (refine blk_drew ?_)); exact BK254.out) hg (Kd.R_ne HO257.out BK254.out (by decide))); have n1_ := Aside0.mk (hb); have n2_ := Aside0.mk (ho); clear BK254; clear HB; clear HO257; have BK254 := n0_; have HB := n1_; have HO260 := n2_; clear n0_ n1_ n2_; clear ho hb hg hat))
       go_meet
       case rel => exact ⟨_, (y258), H', ⟨by omega⟩, ⟨by (with_reducible repeat (apply Kd.R_drew)); exact HO260.out⟩, ⟨by (with_reducible repeat (refine blk_drew ?_)); exact BK254.out⟩, ⟨by repeat ((with_reducible exact HB.out))⟩⟩
      ·rw [if_neg c13] at H
       exact absurd H (by simp)
    case rest =>
     clear HC6
     try clear c1
     try clear p2
     try clear c3
     try clear c3b0
     try clear c3b1
     try clear c4
     try clear c4b0
     try clear c4b1
     try clear c5
     try clear c5b0
     try clear c5b1
     try clear p6
     try clear c12
     try clear c12b0
     try clear c12b1
     try clear c13
     try clear hcz11_0
     try clear hcz11_1
     try clear hcz11_2
     try clear hcz11_3
     try clear hcz14_0
     try clear hcz14_1
     try clear hcz14_2
     try clear hcz14_3
     try clear hcz8_0
     try clear hcz8_1
     try clear hcz8_2
     try clear hcz8_3
     try clear hfz11_0
     try clear hfz11_1
     try clear hfz11_2
     try clear hfz11_3
     try clear hfz14_0
     try clear hfz14_1
     try clear hfz14_2
     try clear hfz14_3
     try clear hfz8_0
     try clear hfz8_1
     try clear hfz8_2
     try clear hfz8_3
     obtain ⟨kq, x3_5, HA, HJ5, HO_3, BK254, HB⟩ := hcut
     cases kq with
     | zero => exact absurd HA.out (by simp [r21_parts.j0])
     | succ kj5 =>
      have H := HA.out
      clear HA
      simp only [r21_parts.j0] at H
      have HC16 := Aside0.mk H
      clear H
      have hcz17_0 : wc.cell? ⟨gb254, 0, none⟩ = some (.int .i64 a0_0) := (blk_cell BK254.out 0).trans rfl
      have hcz17_1 : wc.cell? ⟨gb254, 1, none⟩ = some (.string a0_1) := (blk_cell BK254.out 1).trans rfl
      have hcz17_2 : wc.cell? ⟨gb254, 2, none⟩ = some (.string a0_2) := (blk_cell BK254.out 2).trans rfl
      have hcz17_3 : wc.cell? ⟨gb254, 3, none⟩ = some (.slice A0_3 l0_3.length c0_3) := (blk_cell BK254.out 3).trans rfl
      have hfz17_0 := blk_frozen BK254.out 0
      have hfz17_1 := blk_frozen BK254.out 1
      have hfz17_2 := blk_frozen BK254.out 2
      have hfz17_3 := blk_frozen BK254.out 3
      go_upto_if 25 with (fail)
      go_cut [3] (fun v3 wc => ∃ (kq : Nat) (x3_15 : List (S91)), Aside0 (r21_parts.j1 kq x3_15 a0_0 a0_1 a0_2 l0_3 = some r) ∧ Aside0 (kq ≤ kj5) ∧ Aside0 (Kd.R k91 91 wc w.heap.size (fun _ => True) v3 x3_15) ∧ Aside0 (wc.heap[gb254]? = some (.cells #[.int .i64 a0_0, .string a0_1, .string a0_2, (.slice A0_3 l0_3.length c0_3)] 25 (0, 0))) ∧ Aside0 (Below w.heap.size w wc))
      case first =>
       have H := HC16.out
       clear HC16
       by_cases c18 : a0_2.toList = ([] : List UInt8)
       ·rw [if_pos c18] at H
        have c18b0 : (a0_2.toList == ([] : List UInt8)) = true := beq_iff_eq.mpr c18
        have c18b1 : (a0_2.toList != ([] : List UInt8)) = false := bne_eq_false_iff_eq.mpr c18
        have c18b3 : a0_2.toList.isEmpty = true := by rw [← c18b0]; generalize a0_2.toList = z_; cases z_ <;> rfl
        clear c18
        (rw [c18b3])
        have H' := Aside0.mk H
        clear H
        go_wp2
        go_meet
        case rel => exact ⟨_, (x3_5), H', ⟨by have := HJ5.out; omega⟩, ⟨by (with_reducible repeat (apply Kd.R_drew)); exact HO_3.out⟩, ⟨by (with_reducible repeat (refine blk_drew ?_)); exact BK254.out⟩, ⟨by repeat ((with_reducible exact HB.out))⟩⟩
       ·rw [if_neg c18] at H
        have c18b0 : (a0_2.toList == ([] : List UInt8)) = false := beq_eq_false_iff_ne.mpr c18
        have c18b1 : (a0_2.toList != ([] : List UInt8)) = true := bne_iff_ne.mpr c18
        have c18b3 : a0_2.toList.isEmpty = false := by rw [← c18b0]; generalize a0_2.toList = z_; cases z_ <;> rfl
        (rw [c18b3])
        by_cases c19 : x3_5.length < 4398046511104
        ·rw [if_pos c19] at H
         have LMc19 := Aside0.mk c19
         clear c19
         obtain ⟨y261, hy261⟩ : ∃ y_ : List (S91), y_ = (x3_5 ++ [(⟨1, 0, a0_2⟩ : S91)]) := ⟨_, rfl⟩
         replace H : (r21_parts.j1 kj5 y261 a0_0 a0_1 a0_2 l0_3) = some r := by (rw [hy261]; with_reducible exact H)
         have Ny261 := Aside0.mk hy261
         clear hy261
         have H' := Aside0.mk H
         clear H
         have hcz20_0 : wc.cell? ⟨gb254, 0, none⟩ = some (.int .i64 a0_0) := (blk_cell BK254.out 0).trans rfl
         have hcz20_1 : wc.cell? ⟨gb254, 1, none⟩ = some (.string a0_1) := (blk_cell BK254.out 1).trans rfl
         have hcz20_2 : wc.cell? ⟨gb254, 2, none⟩ = some (.string a0_2) := (blk_cell BK254.out 2).trans rfl
         have hcz20_3 : wc.cell? ⟨gb254, 3, none⟩ = some (.slice A0_3 l0_3.length c0_3) := (blk_cell BK254.out 3).trans rfl
         have hfz20_0 := blk_frozen BK254.out 0
         have hfz20_1 := blk_frozen BK254.out 1
         have hfz20_2 := blk_frozen BK254.out 2
         have hfz20_3 := blk_frozen BK254.out 3
         go_wp2_with (((with_reducible refine gate_builtin (b := .append) (xs := #[.tmp 26, .tmp 30]) rfl ?_); at_builtin; refine Kd.R_append k91 (w0 := w) w.heap.size rfl (.tmp 26) (.tmp 30) 85 91 (.agg #[(.int .i64 0), (.int .i64 0), (.string ⟨#[]⟩)]) 32 rfl Tryd.underlying85 info91 rfl (by decide) (by omega) u3 x3_5 (⟨1, 0, a0_2⟩ : S91) [.int .i64 1, .int .i64 0, .string a0_2] (fun _ => True) (fun _ => False) rfl rfl ?aP (fun _ hk => hk.elim) ?aF ?aO ?aB ?aS ?aL ?_; (case aP => exact k91_mkM _ _ _ (⟨1, 0, a0_2⟩ : S91)); (case aB => exact (by repeat ((with_reducible exact HB.out)))); (case aF => exact (fun _ _ => trivial)); (case aO => exact (by (with_reducible repeat (apply Kd.R_drew)); exact HO_3.out)); (case aS => exact (below_size (by repeat ((with_reducible exact HB.out))))); (case aL => have := LMc19.out; omega); intro v262 w21 ho hb hg hat; rw [← Ny261.out] at ho; have n0_ := Aside0.mk (blk_grown (g := gb254) (o := .cells #[.int .i64 a0_0, .string a0_1, .string a0_2, .slice A0_3 l0_3.length c0_3] 25 (0, 0)) (by (with_reducible repeat (refine blk_drew ?_)); exact BK254.out) hg (Kd.R_ne HO_3.out BK254.out (by decide))); have n1_ := Aside0.mk (hb); have n2_ := Aside0.mk (ho); clear BK254; clear HB; clear HO_3; have BK254 := n0_; have HB := n1_; have HO263 := n2_; clear n0_ n1_ n2_; clear ho hb hg hat))
         go_meet
         case rel => exact ⟨_, (y261), H', ⟨by have := HJ5.out; omega⟩, ⟨by (with_reducible repeat (apply Kd.R_drew)); exact HO263.out⟩, ⟨by (with_reducible repeat (refine blk_drew ?_)); exact BK254.out⟩, ⟨by repeat ((with_reducible exact HB.out))⟩⟩
        ·rw [if_neg c19] at H
         exact absurd H (by simp)
      case rest =>
       clear HC16
       try clear c1
       try clear p2
       try clear c3
       try clear c3b0
       try clear c3b1
       try clear c4
       try clear c4b0
       try clear c4b1
       try clear c5
       try clear c5b0
       try clear c5b1
       try clear p6
       try clear c12
       try clear c12b0
       try clear c12b1
       try clear c13
       try clear c18
       try clear c18b0
       try clear c18b1
       try clear c19
       try clear hcz11_0
       try clear hcz11_1
       try clear hcz11_2
       try clear hcz11_3
       try clear hcz14_0
       try clear hcz14_1
       try clear hcz14_2
       try clear hcz14_3
       try clear hcz17_0
       try clear hcz17_1
       try clear hcz17_2
       try clear hcz17_3
       try clear hcz20_0
       try clear hcz20_1
       try clear hcz20_2
       try clear hcz20_3
       try clear hcz8_0
       try clear hcz8_1
       try clear hcz8_2
       try clear hcz8_3
       try clear hfz11_0
       try clear hfz11_1
       try clear hfz11_2
       try clear hfz11_3
       try clear hfz14_0
       try clear hfz14_1
       try clear hfz14_2
       try clear hfz14_3
       try clear hfz17_0
       try clear hfz17_1
       try clear hfz17_2
       try clear hfz17_3
       try clear hfz20_0
       try clear hfz20_1
       try clear hfz20_2
       try clear hfz20_3
       try clear hfz8_0
       try clear hfz8_1
       try clear hfz8_2
       try clear hfz8_3
       try clear p2
       try clear p6
       obtain ⟨kq, x3_15, HA, HJ15, HO_3, BK254, HB⟩ := hcut
       cases kq with
       | zero => exact absurd HA.out (by simp [r21_parts.j1])
       | succ kj15 =>
        have H := HA.out
        clear HA
        simp only [r21_parts.j1] at H
        have H' := Aside0.mk H
        clear H
        go_wp2
        go_loopg [3, 4] kj15 (fun kq v3 v4 w' => ∃ (x3_3 : List (S91)) (x4_3 : Int), v4 = .int .i64 x4_3 ∧ Aside0 (r21_parts.l0 kq x3_3 x4_3 a0_0 a0_1 a0_2 l0_3 = some r) ∧ Aside0 (kq ≤ kj15) ∧ Aside0 (Kd.R k91 91 w' w.heap.size (fun _ => True) v3 x3_3) ∧ Aside0 (w'.heap[gb254]? = some (.cells #[.int .i64 a0_0, .string a0_1, .string a0_2, (.slice A0_3 l0_3.length c0_3)] 25 (0, 0))) ∧ Aside0 (Below w.heap.size w w'))
        case atStart => exact ⟨(x3_15), (0), (by rfl), H', ⟨Nat.le_refl _⟩, ⟨by (with_reducible repeat (apply Kd.R_drew)); exact HO_3.out⟩, ⟨by (with_reducible repeat (refine blk_drew ?_)); exact BK254.out⟩, ⟨by repeat ((with_reducible exact HB.out))⟩⟩
        case round =>
         clear H'
         try clear c1
         try clear p2
         try clear c3
         try clear c3b0
         try clear c3b1
         try clear c4
         try clear c4b0
         try clear c4b1
         try clear c5
         try clear c5b0
         try clear c5b1
         try clear p6
         try clear c12
         try clear c12b0
         try clear c12b1
         try clear c13
         try clear c18
         try clear c18b0
         try clear c18b1
         try clear c19
         try clear hcz11_0
         try clear hcz11_1
         try clear hcz11_2
         try clear hcz11_3
         try clear hcz14_0
         try clear hcz14_1
         try clear hcz14_2
         try clear hcz14_3
         try clear hcz17_0
         try clear hcz17_1
         try clear hcz17_2
         try clear hcz17_3
         try clear hcz20_0
         try clear hcz20_1
         try clear hcz20_2
         try clear hcz20_3
         try clear hcz8_0
         try clear hcz8_1
         try clear hcz8_2
         try clear hcz8_3
         try clear hfz11_0
         try clear hfz11_1
         try clear hfz11_2
         try clear hfz11_3
         try clear hfz14_0
         try clear hfz14_1
         try clear hfz14_2
         try clear hfz14_3
         try clear hfz17_0
         try clear hfz17_1
         try clear hfz17_2
         try clear hfz17_3
         try clear hfz20_0
         try clear hfz20_1
         try clear hfz20_2
         try clear hfz20_3
         try clear hfz8_0
         try clear hfz8_1
         try clear hfz8_2
         try clear hfz8_3
         try clear p2
         try clear p6
         obtain ⟨x3_3, x4_3, rfl, HA, HK3, HO_3, BK254, HB⟩ := hrel
         cases gk with
         | zero => exact absurd HA.out (by simp [r21_parts.l0])
         | succ k3 =>
          have H := HA.out
          clear HA
          simp only [r21_parts.l0] at H
          by_cases c22 : x4_3 < (l0_3.length : Int)
          ·rw [if_pos c22] at H
           have c22b0 : decide (x4_3 < (l0_3.length : Int)) = true := decide_eq_true c22
           clear c22
           by_cases c23 : 0 ≤ x4_3
           ·rw [if_pos c23] at H
            have c23b0 : decide (0 ≤ x4_3) = true := decide_eq_true c23
            clear c23
            by_cases c24 : a0_0 = 2
            ·rw [if_pos c24] at H
             have c24b0 : (a0_0 == 2) = true := beq_iff_eq.mpr c24
             have c24b1 : (a0_0 != 2) = false := bne_eq_false_iff_eq.mpr c24
             clear c24
             by_cases c25 : x3_3.length < 4398046511104
             ·rw [if_pos c25] at H
              have LMc25 := Aside0.mk c25
              clear c25
              obtain ⟨y266, hy266⟩ : ∃ y_ : List (S91), y_ = (x3_3 ++ [(⟨3, rd l0_3 x4_3, (⟨#[]⟩ : ByteArray)⟩ : S91)]) := ⟨_, rfl⟩
              replace H : (r21_parts.l0 k3 y266 (wrap64 (x4_3 + 1)) a0_0 a0_1 a0_2 l0_3) = some r := by (rw [hy266]; with_reducible exact H)
              have Ny266 := Aside0.mk hy266
              clear hy266
              have H' := Aside0.mk H
              clear H
              have hcz26_0 : wr.cell? ⟨gb254, 0, none⟩ = some (.int .i64 a0_0) := (blk_cell BK254.out 0).trans rfl
              have hcz26_1 : wr.cell? ⟨gb254, 1, none⟩ = some (.string a0_1) := (blk_cell BK254.out 1).trans rfl
              have hcz26_2 : wr.cell? ⟨gb254, 2, none⟩ = some (.string a0_2) := (blk_cell BK254.out 2).trans rfl
              have hcz26_3 : wr.cell? ⟨gb254, 3, none⟩ = some (.slice A0_3 l0_3.length c0_3) := (blk_cell BK254.out 3).trans rfl
              have hfz26_0 := blk_frozen BK254.out 0
              have hfz26_1 := blk_frozen BK254.out 1
              have hfz26_2 := blk_frozen BK254.out 2
              have hfz26_3 := blk_frozen BK254.out 3
              have p264 : 0 ≤ (x4_3 : Int) := of_decide_eq_true (by (with_reducible assumption))
              have q264 : x4_3 < (l0_3.length : Int) := of_decide_eq_true (by (with_reducible assumption))
              obtain ⟨ad264, e264, hx264_0⟩ := Kd.at_int HR0_3.out x4_3 p264 q264
              cases e264
              replace hx264_0 := (HB.out.cell (World.block_lt_of_cell? w _ hx264_0)).trans hx264_0
              replace p264 := eq_true p264
              replace q264 := eq_true q264
              go_wp2_with (first | ((with_reducible refine gate_dst (N := 5) rfl ?_); refine box_event ?hg (N := 5) ?hd (cs := #[.int .i64 0, .int .i64 0, .string (⟨#[]⟩ : ByteArray)]) (t := 91) ?hr ?_; (case hd => rfl); (case hg => rfl); (case hr => (go_simp; done)); intro gb265 hg w27 hbox hb; have n0_ := Aside0.mk (Kd.R_below (Kd.R_elderB (by (with_reducible repeat (apply Kd.R_drew)); exact HO_3.out) gb265 (Nat.le_of_eq hg.symm)) hb); have n1_ := Aside0.mk (blk_below (g := gb254) (o := .cells #[.int .i64 a0_0, .string a0_1, .string a0_2, .slice (some ad264) l0_3.length c0_3] 25 (0, 0)) (by (with_reducible repeat (refine blk_drew ?_)); exact BK254.out) hb); have n2_ := Aside0.mk (below_step (by repeat ((with_reducible exact HB.out))) hb); have n3_ := Aside0.mk (hbox); have n4_ := Aside0.mk ((by rw [hg]; exact (below_size (by repeat ((with_reducible exact HB.out)))) : w.heap.size ≤ gb265)); have n5_ := Aside0.mk ((by rw [hg]; exact (below_size (by repeat ((with_reducible exact HB.out)))) : w.heap.size ≤ gb265)); have n6_ := Aside0.mk ((by rw [hg]; exact Nat.ne_of_lt (blk_lt (g := gb254) (o := .cells #[.int .i64 a0_0, .string a0_1, .string a0_2, .slice (some ad264) l0_3.length c0_3] 25 (0, 0)) (by (with_reducible repeat (refine blk_drew ?_)); exact BK254.out)) : gb254 ≠ gb265)); have n7_ := Aside0.mk ((by rw [hg]; exact Nat.ne_of_gt (blk_lt (g := gb254) (o := .cells #[.int .i64 a0_0, .string a0_1, .string a0_2, .slice (some ad264) l0_3.length c0_3] 25 (0, 0)) (by (with_reducible repeat (refine blk_drew ?_)); exact BK254.out)) : gb265 ≠ gb254)); clear HO_3; clear BK254; clear HB; have HO_3 := n0_; have BK254 := n1_; have HB := n2_; have BK265 := n3_; have GW265 := n4_; have GE265 := n5_; have NB254_265 := n6_; have NB265_254 := n7_; clear n0_ n1_ n2_ n3_ n4_ n5_ n6_ n7_; clear hb hbox hg; have hnb28 := NB265_254.out; have hnc28 := NB254_265.out; have hcz29_0 : w27.cell? ⟨gb265, 0, none⟩ = some (.int .i64 0) := (blk_cell BK265.out 0).trans rfl; have hcz29_1 : w27.cell? ⟨gb265, 1, none⟩ = some (.int .i64 0) := (blk_cell BK265.out 1).trans rfl; have hcz29_2 : w27.cell? ⟨gb265, 2, none⟩ = some (.string (⟨#[]⟩ : ByteArray)) := (blk_cell BK265.out 2).trans rfl; have hfz29_0 := blk_frozen BK265.out 0; have hfz29_1 := blk_frozen BK265.out 1; have hfz29_2 := blk_frozen BK265.out 2; have hcz30_0 : w27.cell? ⟨gb254, 0, none⟩ = some (.int .i64 a0_0) := (blk_cell BK254.out 0).trans rfl; have hcz30_1 : w27.cell? ⟨gb254, 1, none⟩ = some (.string a0_1) := (blk_cell BK254.out 1).trans rfl; have hcz30_2 : w27.cell? ⟨gb254, 2, none⟩ = some (.string a0_2) := (blk_cell BK254.out 2).trans rfl; have hcz30_3 : w27.cell? ⟨gb254, 3, none⟩ = some (.slice (some ad264) l0_3.length c0_3) := (blk_cell BK254.out 3).trans rfl; have hfz30_0 := blk_frozen BK254.out 0; have hfz30_1 := blk_frozen BK254.out 1; have hfz30_2 := blk_frozen BK254.out 2; have hfz30_3 := blk_frozen BK254.out 3) | ((with_reducible refine gate_builtin (b := .append) (xs := #[.tmp 49, .tmp 51]) rfl ?_); at_builtin; refine Kd.R_append k91 (w0 := w) w.heap.size rfl (.tmp 49) (.tmp 51) 85 91 (.agg #[(.int .i64 0), (.int .i64 0), (.string ⟨#[]⟩)]) 32 rfl Tryd.underlying85 info91 rfl (by decide) (by omega) u3 x3_3 (⟨3, rd l0_3 x4_3, (⟨#[]⟩ : ByteArray)⟩ : S91) [.int .i64 3, .int .i64 (rd l0_3 x4_3), .string (⟨#[]⟩ : ByteArray)] (fun k_ => k_ ≠ gb265) (fun _ => False) rfl (by (go_simp; done)) ?aP (fun _ hk => hk.elim) ?aF ?aO ?aB ?aS ?aL ?_; (case aP => exact k91_mkM _ _ _ (⟨3, rd l0_3 x4_3, (⟨#[]⟩ : ByteArray)⟩ : S91)); (case aB => exact (by repeat ((with_reducible first | exact HB.out | refine below_set ?_ GE265.out)))); (case aF => exact (fun k_ hk => Kd.freshB (g := gb265) (o := .cells #[.int .i64 3, .int .i64 (rd l0_3 x4_3), .string (⟨#[]⟩ : ByteArray)] 91 (0, 0)) (by (with_reducible repeat (refine blk_drew ?_)); refine blk_put (cs := #[.int .i64 2, .int .i64 (rd l0_3 x4_3), .string (⟨#[]⟩ : ByteArray)]) ?_ 0 _ rfl; (with_reducible repeat (refine blk_drew ?_)); refine blk_put (cs := #[.int .i64 2, .int .i64 (rd l0_3 x4_3), .string (⟨#[]⟩ : ByteArray)]) ?_ 2 _ rfl; (with_reducible repeat (refine blk_drew ?_)); refine blk_put (cs := #[.int .i64 2, .int .i64 0, .string (⟨#[]⟩ : ByteArray)]) ?_ 1 _ rfl; (with_reducible repeat (refine blk_drew ?_)); refine blk_put (cs := #[.int .i64 0, .int .i64 0, .string (⟨#[]⟩ : ByteArray)]) ?_ 0 _ rfl; (with_reducible repeat (refine blk_drew ?_)); exact BK265.out) k_ hk)); (case aO => exact (by (with_reducible repeat (apply Kd.R_drew)); exact Kd.R_mono (Kd.R_far (p := ⟨gb265, 0, none⟩) (Kd.R_far (p := ⟨gb265, 2, none⟩) (Kd.R_far (p := ⟨gb265, 1, none⟩) (Kd.R_far (p := ⟨gb265, 0, none⟩) (Kd.R_mono HO_3.out (fun k_ hk => (⟨hk, hk.2⟩ : _ ∧ k_ ≠ gb265))) (fun _ hk => hk.2) (.int .i64 2)) (fun _ hk => hk.2) (.int .i64 (rd l0_3 x4_3))) (fun _ hk => hk.2) (.string (⟨#[]⟩ : ByteArray))) (fun _ hk => hk.2) (.int .i64 3)) (fun _ hk => hk.1.2))); (case aS => exact (below_size (by repeat ((with_reducible first | exact HB.out | refine below_set ?_ GE265.out))))); (case aL => have := LMc25.out; omega); intro v267 w31 ho hb hg hat; rw [← Ny266.out] at ho; have n0_ := Aside0.mk (blk_grown (g := gb254) (o := .cells #[.int .i64 a0_0, .string a0_1, .string a0_2, .slice (some ad264) l0_3.length c0_3] 25 (0, 0)) (by (with_reducible repeat (refine blk_drew ?_)); refine blk_far ?_ NB254_265.out _; (with_reducible repeat (refine blk_drew ?_)); refine blk_far ?_ NB254_265.out _; (with_reducible repeat (refine blk_drew ?_)); refine blk_far ?_ NB254_265.out _; (with_reducible repeat (refine blk_drew ?_)); refine blk_far ?_ NB254_265.out _; (with_reducible repeat (refine blk_drew ?_)); exact BK254.out) hg (Kd.R_ne HO_3.out BK254.out (by decide))); have n1_ := Aside0.mk (blk_grown (g := gb265) (o := .cells #[.int .i64 3, .int .i64 (rd l0_3 x4_3), .string (⟨#[]⟩ : ByteArray)] 91 (0, 0)) (by (with_reducible repeat (refine blk_drew ?_)); refine blk_put (cs := #[.int .i64 2, .int .i64 (rd l0_3 x4_3), .string (⟨#[]⟩ : ByteArray)]) ?_ 0 _ rfl; (with_reducible repeat (refine blk_drew ?_)); refine blk_put (cs := #[.int .i64 2, .int .i64 (rd l0_3 x4_3), .string (⟨#[]⟩ : ByteArray)]) ?_ 2 _ rfl; (with_reducible repeat (refine blk_drew ?_)); refine blk_put (cs := #[.int .i64 2, .int .i64 0, .string (⟨#[]⟩ : ByteArray)]) ?_ 1 _ rfl; (with_reducible repeat (refine blk_drew ?_)); refine blk_put (cs := #[.int .i64 0, .int .i64 0, .string (⟨#[]⟩ : ByteArray)]) ?_ 0 _ rfl; (with_reducible repeat (refine blk_drew ?_)); exact BK265.out) hg (Kd.R_away HO_3.out (fun _ hk => hk.2))); have n2_ := Aside0.mk (hb); have n3_ := Aside0.mk (ho); clear BK254; clear BK265; clear HB; clear HO_3; have BK254 := n0_; have BK265 := n1_; have HB := n2_; have HO268 := n3_; clear n0_ n1_ n2_ n3_; clear ho hb hg hat))
              go_roundg k3
              case measure => have := HJ5.out; have := HJ15.out; have := HK3.out; omega
              case rel => exact ⟨(y266), (wrap64 (x4_3 + 1)), (by rfl), H', ⟨by have := HJ5.out; have := HJ15.out; have := HK3.out; omega⟩, ⟨by (with_reducible repeat (apply Kd.R_drew)); exact Kd.R_mono HO268.out (fun _ hk => trivial)⟩, ⟨by (with_reducible repeat (refine blk_drew ?_)); exact BK254.out⟩, ⟨by repeat ((with_reducible exact HB.out))⟩⟩
             ·rw [if_neg c25] at H
              exact absurd H (by simp)
            ·rw [if_neg c24] at H
             have c24b0 : (a0_0 == 2) = false := beq_eq_false_iff_ne.mpr c24
             have c24b1 : (a0_0 != 2) = true := bne_iff_ne.mpr c24
             by_cases c32 : x3_3.length < 4398046511104
             ·rw [if_pos c32] at H
              have LMc32 := Aside0.mk c32
              clear c32
              obtain ⟨y269, hy269⟩ : ∃ y_ : List (S91), y_ = (x3_3 ++ [(⟨2, rd l0_3 x4_3, (⟨#[]⟩ : ByteArray)⟩ : S91)]) := ⟨_, rfl⟩
              replace H : (r21_parts.l0 k3 y269 (wrap64 (x4_3 + 1)) a0_0 a0_1 a0_2 l0_3) = some r := by (rw [hy269]; with_reducible exact H)
              have Ny269 := Aside0.mk hy269
              clear hy269
              have H' := Aside0.mk H
              clear H
              have hcz33_0 : wr.cell? ⟨gb254, 0, none⟩ = some (.int .i64 a0_0) := (blk_cell BK254.out 0).trans rfl
              have hcz33_1 : wr.cell? ⟨gb254, 1, none⟩ = some (.string a0_1) := (blk_cell BK254.out 1).trans rfl
              have hcz33_2 : wr.cell? ⟨gb254, 2, none⟩ = some (.string a0_2) := (blk_cell BK254.out 2).trans rfl
              have hcz33_3 : wr.cell? ⟨gb254, 3, none⟩ = some (.slice A0_3 l0_3.length c0_3) := (blk_cell BK254.out 3).trans rfl
              have hfz33_0 := blk_frozen BK254.out 0
              have hfz33_1 := blk_frozen BK254.out 1
              have hfz33_2 := blk_frozen BK254.out 2
              have hfz33_3 := blk_frozen BK254.out 3
              have p264 : 0 ≤ (x4_3 : Int) := of_decide_eq_true (by (with_reducible assumption))
              have q264 : x4_3 < (l0_3.length : Int) := of_decide_eq_true (by (with_reducible assumption))
              obtain ⟨ad264, e264, hx264_0⟩ := Kd.at_int HR0_3.out x4_3 p264 q264
              cases e264
              replace hx264_0 := (HB.out.cell (World.block_lt_of_cell? w _ hx264_0)).trans hx264_0
              replace p264 := eq_true p264
              replace q264 := eq_true q264
              go_wp2_with (first | ((with_reducible refine gate_dst (N := 5) rfl ?_); refine box_event ?hg (N := 5) ?hd (cs := #[.int .i64 0, .int .i64 0, .string (⟨#[]⟩ : ByteArray)]) (t := 91) ?hr ?_; (case hd => rfl); (case hg => rfl); (case hr => (go_simp; done)); intro gb265 hg w34 hbox hb; have n0_ := Aside0.mk (Kd.R_below (Kd.R_elderB (by (with_reducible repeat (apply Kd.R_drew)); exact HO_3.out) gb265 (Nat.le_of_eq hg.symm)) hb); have n1_ := Aside0.mk (blk_below (g := gb254) (o := .cells #[.int .i64 a0_0, .string a0_1, .string a0_2, .slice (some ad264) l0_3.length c0_3] 25 (0, 0)) (by (with_reducible repeat (refine blk_drew ?_)); exact BK254.out) hb); have n2_ := Aside0.mk (below_step (by repeat ((with_reducible exact HB.out))) hb); have n3_ := Aside0.mk (hbox); have n4_ := Aside0.mk ((by rw [hg]; exact (below_size (by repeat ((with_reducible exact HB.out)))) : w.heap.size ≤ gb265)); have n5_ := Aside0.mk ((by rw [hg]; exact (below_size (by repeat ((with_reducible exact HB.out)))) : w.heap.size ≤ gb265)); have n6_ := Aside0.mk ((by rw [hg]; exact Nat.ne_of_lt (blk_lt (g := gb254) (o := .cells #[.int .i64 a0_0, .string a0_1, .string a0_2, .slice (some ad264) l0_3.length c0_3] 25 (0, 0)) (by (with_reducible repeat (refine blk_drew ?_)); exact BK254.out)) : gb254 ≠ gb265)); have n7_ := Aside0.mk ((by rw [hg]; exact Nat.ne_of_gt (blk_lt (g := gb254) (o := .cells #[.int .i64 a0_0, .string a0_1, .string a0_2, .slice (some ad264) l0_3.length c0_3] 25 (0, 0)) (by (with_reducible repeat (refine blk_drew ?_)); exact BK254.out)) : gb265 ≠ gb254)); clear HO_3; clear BK254; clear HB; have HO_3 := n0_; have BK254 := n1_; have HB := n2_; have BK265 := n3_; have GW265 := n4_; have GE265 := n5_; have NB254_265 := n6_; have NB265_254 := n7_; clear n0_ n1_ n2_ n3_ n4_ n5_ n6_ n7_; clear hb hbox hg; have hnb35 := NB265_254.out; have hnc35 := NB254_265.out; have hcz36_0 : w34.cell? ⟨gb265, 0, none⟩ = some (.int .i64 0) := (blk_cell BK265.out 0).trans rfl; have hcz36_1 : w34.cell? ⟨gb265, 1, none⟩ = some (.int .i64 0) := (blk_cell BK265.out 1).trans rfl; have hcz36_2 : w34.cell? ⟨gb265, 2, none⟩ = some (.string (⟨#[]⟩ : ByteArray)) := (blk_cell BK265.out 2).trans rfl; have hfz36_0 := blk_frozen BK265.out 0; have hfz36_1 := blk_frozen BK265.out 1; have hfz36_2 := blk_frozen BK265.out 2; have hcz37_0 : w34.cell? ⟨gb254, 0, none⟩ = some (.int .i64 a0_0) := (blk_cell BK254.out 0).trans rfl; have hcz37_1 : w34.cell? ⟨gb254, 1, none⟩ = some (.string a0_1) := (blk_cell BK254.out 1).trans rfl; have hcz37_2 : w34.cell? ⟨gb254, 2, none⟩ = some (.string a0_2) := (blk_cell BK254.out 2).trans rfl; have hcz37_3 : w34.cell? ⟨gb254, 3, none⟩ = some (.slice (some ad264) l0_3.length c0_3) := (blk_cell BK254.out 3).trans rfl; have hfz37_0 := blk_frozen BK254.out 0; have hfz37_1 := blk_frozen BK254.out 1; have hfz37_2 := blk_frozen BK254.out 2; have hfz37_3 := blk_frozen BK254.out 3) | ((with_reducible refine gate_builtin (b := .append) (xs := #[.tmp 49, .tmp 51]) rfl ?_); at_builtin; refine Kd.R_append k91 (w0 := w) w.heap.size rfl (.tmp 49) (.tmp 51) 85 91 (.agg #[(.int .i64 0), (.int .i64 0), (.string ⟨#[]⟩)]) 32 rfl Tryd.underlying85 info91 rfl (by decide) (by omega) u3 x3_3 (⟨2, rd l0_3 x4_3, (⟨#[]⟩ : ByteArray)⟩ : S91) [.int .i64 2, .int .i64 (rd l0_3 x4_3), .string (⟨#[]⟩ : ByteArray)] (fun k_ => k_ ≠ gb265) (fun _ => False) rfl (by (go_simp; done)) ?aP (fun _ hk => hk.elim) ?aF ?aO ?aB ?aS ?aL ?_; (case aP => exact k91_mkM _ _ _ (⟨2, rd l0_3 x4_3, (⟨#[]⟩ : ByteArray)⟩ : S91)); (case aB => exact (by repeat ((with_reducible first | exact HB.out | refine below_set ?_ GE265.out)))); (case aF => exact (fun k_ hk => Kd.freshB (g := gb265) (o := .cells #[.int .i64 2, .int .i64 (rd l0_3 x4_3), .string (⟨#[]⟩ : ByteArray)] 91 (0, 0)) (by (with_reducible repeat (refine blk_drew ?_)); refine blk_put (cs := #[.int .i64 2, .int .i64 (rd l0_3 x4_3), .string (⟨#[]⟩ : ByteArray)]) ?_ 2 _ rfl; (with_reducible repeat (refine blk_drew ?_)); refine blk_put (cs := #[.int .i64 2, .int .i64 0, .string (⟨#[]⟩ : ByteArray)]) ?_ 1 _ rfl; (with_reducible repeat (refine blk_drew ?_)); refine blk_put (cs := #[.int .i64 0, .int .i64 0, .string (⟨#[]⟩ : ByteArray)]) ?_ 0 _ rfl; (with_reducible repeat (refine blk_drew ?_)); exact BK265.out) k_ hk)); (case aO => exact (by (with_reducible repeat (apply Kd.R_drew)); exact Kd.R_mono (Kd.R_far (p := ⟨gb265, 2, none⟩) (Kd.R_far (p := ⟨gb265, 1, none⟩) (Kd.R_far (p := ⟨gb265, 0, none⟩) (Kd.R_mono HO_3.out (fun k_ hk => (⟨hk, hk.2⟩ : _ ∧ k_ ≠ gb265))) (fun _ hk => hk.2) (.int .i64 2)) (fun _ hk => hk.2) (.int .i64 (rd l0_3 x4_3))) (fun _ hk => hk.2) (.string (⟨#[]⟩ : ByteArray))) (fun _ hk => hk.1.2))); (case aS => exact (below_size (by repeat ((with_reducible first | exact HB.out | refine below_set ?_ GE265.out))))); (case aL => have := LMc32.out; omega); intro v270 w38 ho hb hg hat; rw [← Ny269.out] at ho; have n0_ := Aside0.mk (blk_grown (g := gb254) (o := .cells #[.int .i64 a0_0, .string a0_1, .string a0_2, .slice (some ad264) l0_3.length c0_3] 25 (0, 0)) (by (with_reducible repeat (refine blk_drew ?_)); refine blk_far ?_ NB254_265.out _; (with_reducible repeat (refine blk_drew ?_)); refine blk_far ?_ NB254_265.out _; (with_reducible repeat (refine blk_drew ?_)); refine blk_far ?_ NB254_265.out _; (with_reducible repeat (refine blk_drew ?_)); exact BK254.out) hg (Kd.R_ne HO_3.out BK254.out (by decide))); have n1_ := Aside0.mk (blk_grown (g := gb265) (o := .cells #[.int .i64 2, .int .i64 (rd l0_3 x4_3), .string (⟨#[]⟩ : ByteArray)] 91 (0, 0)) (by (with_reducible repeat (refine blk_drew ?_)); refine blk_put (cs := #[.int .i64 2, .int .i64 (rd l0_3 x4_3), .string (⟨#[]⟩ : ByteArray)]) ?_ 2 _ rfl; (with_reducible repeat (refine blk_drew ?_)); refine blk_put (cs := #[.int .i64 2, .int .i64 0, .string (⟨#[]⟩ : ByteArray)]) ?_ 1 _ rfl; (with_reducible repeat (refine blk_drew ?_)); refine blk_put (cs := #[.int .i64 0, .int .i64 0, .string (⟨#[]⟩ : ByteArray)]) ?_ 0 _ rfl; (with_reducible repeat (refine blk_drew ?_)); exact BK265.out) hg (Kd.R_away HO_3.out (fun _ hk => hk.2))); have n2_ := Aside0.mk (hb); have n3_ := Aside0.mk (ho); clear BK254; clear BK265; clear HB; clear HO_3; have BK254 := n0_; have BK265 := n1_; have HB := n2_; have HO271 := n3_; clear n0_ n1_ n2_ n3_; clear ho hb hg hat))
              go_roundg k3
              case measure => have := HJ5.out; have := HJ15.out; have := HK3.out; omega
              case rel => exact ⟨(y269), (wrap64 (x4_3 + 1)), (by rfl), H', ⟨by have := HJ5.out; have := HJ15.out; have := HK3.out; omega⟩, ⟨by (with_reducible repeat (apply Kd.R_drew)); exact Kd.R_mono HO271.out (fun _ hk => trivial)⟩, ⟨by (with_reducible repeat (refine blk_drew ?_)); exact BK254.out⟩, ⟨by repeat ((with_reducible exact HB.out))⟩⟩
             ·rw [if_neg c32] at H
              exact absurd H (by simp)
           ·rw [if_neg c23] at H
            exact absurd H (by simp)
          ·rw [if_neg c22] at H
           have c22b0 : decide (x4_3 < (l0_3.length : Int)) = false := decide_eq_false c22
           clear c22
           obtain rfl := Option.some.inj H
           have hcz39_0 : wr.cell? ⟨gb254, 0, none⟩ = some (.int .i64 a0_0) := (blk_cell BK254.out 0).trans rfl
           have hcz39_1 : wr.cell? ⟨gb254, 1, none⟩ = some (.string a0_1) := (blk_cell BK254.out 1).trans rfl
           have hcz39_2 : wr.cell? ⟨gb254, 2, none⟩ = some (.string a0_2) := (blk_cell BK254.out 2).trans rfl
           have hcz39_3 : wr.cell? ⟨gb254, 3, none⟩ = some (.slice A0_3 l0_3.length c0_3) := (blk_cell BK254.out 3).trans rfl
           have hfz39_0 := blk_frozen BK254.out 0
           have hfz39_1 := blk_frozen BK254.out 1
           have hfz39_2 := blk_frozen BK254.out 2
           have hfz39_3 := blk_frozen BK254.out 3
           go_wp2
           go_ret
           exact ⟨_, by rfl, by (with_reducible repeat (apply Kd.R_drew)); exact HO_3.out, by repeat ((with_reducible exact HB.out))⟩
   ·rw [if_neg c5] at H
    exact absurd H (by simp)
  ·rw [if_neg c4] at H
   exact absurd H (by simp)
 ·rw [if_neg c3] at H
  exact absurd H (by simp)

end Go.Proofs.YtbdfmjgndeigpaaDoor.P
