-- by xprint (this session's program over the kit's printer)
import Derived.Test.YtbdfmjgndeigpaaDoorPx0
import Derived.Test.YtbdfmjgndeigpaaDoorPx15
import Derived.Test.YtbdfmjgndeigpaaDoorPx16
import Derived.Test.YtbdfmjgndeigpaaDoorPx18
import Derived.Test.YtbdfmjgndeigpaaDoorPx19
namespace Go.Proofs.YtbdfmjgndeigpaaDoor.P
open Go.RowKit Go.Proofs.YtbdfmjgndeigpaaDoorW.PrintWords Go.Proofs.YtbdfmjgndeigpaaDoorW.PrintLast Go.Proofs.YtbdfmjgndeigpaaDoorW.PrintMore
attribute [local go_sem] max2_int min2_int max_two min_two max_three min_three max_four min_four   -- for this text's walks alone
set_option linter.unusedVariables false
set_option linter.unusedSimpArgs false

/-! ### r21_Span: function 22 -/
mutual
def r21_Span.j0 : Nat → Bool → Int → ByteArray → ByteArray → List Int → Option (ByteArray × ByteArray × Int)
 | 0, _, _, _, _, _ => none
 | k + 1, x53, x282000, x282001, x282002, x282003 => if x53 = true then (some ((⟨#[]⟩ : ByteArray), (⟨#[]⟩ : ByteArray), 2)) else (if x282001.toList = ([] : List UInt8) then (if x282002.toList = ([] : List UInt8) then (r21_Span.j1 k false x282000 x282001 x282002 x282003) else ((r20_Object.f k x282002).bind fun t285 => (r21_Span.j1 k (t285 != 0) x282000 x282001 x282002 x282003))) else ((r20_Bucket.f k x282001).bind fun t286 => (if t286 = 0 then (if x282002.toList = ([] : List UInt8) then (r21_Span.j1 k false x282000 x282001 x282002 x282003) else ((r20_Object.f k x282002).bind fun t287 => (r21_Span.j1 k (t287 != 0) x282000 x282001 x282002 x282003))) else (r21_Span.j1 k true x282000 x282001 x282002 x282003))))
def r21_Span.j1 : Nat → Bool → Int → ByteArray → ByteArray → List Int → Option (ByteArray × ByteArray × Int)
 | 0, _, _, _, _, _ => none
 | k + 1, x74, x282000, x282001, x282002, x282003 => if x74 = true then (some ((⟨#[]⟩ : ByteArray), (⟨#[]⟩ : ByteArray), 15)) else ((r21_parts.f k x282000 x282001 x282002 x282003).bind fun t288 => ((r21_bytes.f k t288).bind fun t291 => (if t291.size + 1 ≤ 9223372036854775807 then (some (t291, t291 ++ (⟨#[255]⟩ : ByteArray), 0)) else (none))))
end
def r21_Span.f (k : Nat) (a0_0 : Int) (a0_1 : ByteArray) (a0_2 : ByteArray) (l0_3 : List Int) : Option (ByteArray × ByteArray × Int) := (r21_nums.f a0_0).bind fun t283 => (if t283 < 0 then (r21_Span.j0 k true a0_0 a0_1 a0_2 l0_3) else ((r21_numbers.f k a0_0 a0_1 a0_2 l0_3 t283).bind fun t284 => (if t284 = true then (if a0_0 = 1 then (if a0_2.toList = ([] : List UInt8) then (if a0_1.toList = ([] : List UInt8) then (if (l0_3.length : Int) > 0 then (r21_Span.j0 k true a0_0 a0_1 a0_2 l0_3) else (r21_Span.j0 k (decide ((l0_3.length : Int) > 0)) a0_0 a0_1 a0_2 l0_3)) else (r21_Span.j0 k (decide ((l0_3.length : Int) > 0)) a0_0 a0_1 a0_2 l0_3)) else (r21_Span.j0 k true a0_0 a0_1 a0_2 l0_3)) else (if a0_1.toList = ([] : List UInt8) then (if a0_2.toList = ([] : List UInt8) then (if (l0_3.length : Int) > 0 then (r21_Span.j0 k true a0_0 a0_1 a0_2 l0_3) else (r21_Span.j0 k (decide ((l0_3.length : Int) > 0)) a0_0 a0_1 a0_2 l0_3)) else (r21_Span.j0 k true a0_0 a0_1 a0_2 l0_3)) else (if a0_2.toList = ([] : List UInt8) then (r21_Span.j0 k (decide ((l0_3.length : Int) > 0)) a0_0 a0_1 a0_2 l0_3) else (r21_Span.j0 k false a0_0 a0_1 a0_2 l0_3)))) else (r21_Span.j0 k true a0_0 a0_1 a0_2 l0_3))))
theorem r21_Span.mono_l : ∀ k, (∀ y0 y1 y2 y3 y4, LeO (r21_Span.j0 k y0 y1 y2 y3 y4) (r21_Span.j0 (k + 1) y0 y1 y2 y3 y4)) ∧ (∀ y0 y1 y2 y3 y4, LeO (r21_Span.j1 k y0 y1 y2 y3 y4) (r21_Span.j1 (k + 1) y0 y1 y2 y3 y4))
 | 0 => ⟨fun _ _ _ _ _ r h => by simp [r21_Span.j0] at h, fun _ _ _ _ _ r h => by simp [r21_Span.j1] at h⟩
 | k + 1 => by
  obtain ⟨ih0, ih1⟩ := r21_Span.mono_l k
  refine ⟨?_, ?_⟩
  ·intro y0 y1 y2 y3 y4
   unfold r21_Span.j0
   repeat' first
   | (with_reducible exact ih0 _ _ _ _ _)
   | (with_reducible exact ih1 _ _ _ _ _)
   | (with_reducible exact r20_Bucket.mono _ _)
   | (with_reducible exact r20_Object.mono _ _)
   | (with_reducible exact r21_bytes.mono _ _)
   | (with_reducible exact r21_numbers.mono _ _ _ _ _ _)
   | (with_reducible exact r21_parts.mono _ _ _ _ _)
   | (with_reducible exact LeO.refl _)
   | (with_reducible exact LeO.none _)
   | (with_reducible refine LeO.ite ?_ ?_)
   | (with_reducible refine LeO.bind ?_ (fun _ => ?_))
   | exact ih0 _ _ _ _ _
   | exact ih1 _ _ _ _ _
   | exact r20_Bucket.mono _ _
   | exact r20_Object.mono _ _
   | exact r21_bytes.mono _ _
   | exact r21_numbers.mono _ _ _ _ _ _
   | exact r21_parts.mono _ _ _ _ _
   | exact LeO.none _
   | refine LeO.ite ?_ ?_
   | refine LeO.bind ?_ (fun _ => ?_)
  ·intro y0 y1 y2 y3 y4
   unfold r21_Span.j1
   repeat' first
   | (with_reducible exact ih0 _ _ _ _ _)
   | (with_reducible exact ih1 _ _ _ _ _)
   | (with_reducible exact r20_Bucket.mono _ _)
   | (with_reducible exact r20_Object.mono _ _)
   | (with_reducible exact r21_bytes.mono _ _)
   | (with_reducible exact r21_numbers.mono _ _ _ _ _ _)
   | (with_reducible exact r21_parts.mono _ _ _ _ _)
   | (with_reducible exact LeO.refl _)
   | (with_reducible exact LeO.none _)
   | (with_reducible refine LeO.ite ?_ ?_)
   | (with_reducible refine LeO.bind ?_ (fun _ => ?_))
   | exact ih0 _ _ _ _ _
   | exact ih1 _ _ _ _ _
   | exact r20_Bucket.mono _ _
   | exact r20_Object.mono _ _
   | exact r21_bytes.mono _ _
   | exact r21_numbers.mono _ _ _ _ _ _
   | exact r21_parts.mono _ _ _ _ _
   | exact LeO.none _
   | refine LeO.ite ?_ ?_
   | refine LeO.bind ?_ (fun _ => ?_)
theorem r21_Span.mono : ∀ a0 a1 a2 a3 k, LeO (r21_Span.f k a0 a1 a2 a3) (r21_Span.f (k + 1) a0 a1 a2 a3) := by
 intro a0 a1 a2 a3 k
 obtain ⟨ih0, ih1⟩ := r21_Span.mono_l k
 unfold r21_Span.f
 repeat' first
   | (with_reducible exact ih0 _ _ _ _ _)
   | (with_reducible exact ih1 _ _ _ _ _)
   | (with_reducible exact r20_Bucket.mono _ _)
   | (with_reducible exact r20_Object.mono _ _)
   | (with_reducible exact r21_bytes.mono _ _)
   | (with_reducible exact r21_numbers.mono _ _ _ _ _ _)
   | (with_reducible exact r21_parts.mono _ _ _ _ _)
   | (with_reducible exact LeO.refl _)
   | (with_reducible exact LeO.none _)
   | (with_reducible refine LeO.ite ?_ ?_)
   | (with_reducible refine LeO.bind ?_ (fun _ => ?_))
   | exact ih0 _ _ _ _ _
   | exact ih1 _ _ _ _ _
   | exact r20_Bucket.mono _ _
   | exact r20_Object.mono _ _
   | exact r21_bytes.mono _ _
   | exact r21_numbers.mono _ _ _ _ _ _
   | exact r21_parts.mono _ _ _ _ _
   | exact LeO.none _
   | refine LeO.ite ?_ ?_
   | refine LeO.bind ?_ (fun _ => ?_)
set_option maxHeartbeats 8000000 in
set_option maxRecDepth 100000 in
theorem r21_Span.calls (k : Nat) (a0_0 : Int) (a0_1 : ByteArray) (a0_2 : ByteArray) (A0_3 : Option Addr) (c0_3 : Nat) (l0_3 : List Int) (r1 : ByteArray) (r2 : ByteArray) (r3 : Int) (w : World) (hr0_3 : Kd.C (Kd.int .i64) w A0_3 l0_3.length l0_3) (hc0_3 : l0_3.length ≤ c0_3) (h : r21_Span.f k a0_0 a0_1 a0_2 l0_3 = some (r1, r2, r3)) :
  Calls Tryd.prog 22 #[.agg #[.int .i64 a0_0, .string a0_1, .string a0_2, .slice A0_3 l0_3.length c0_3]] w fun e w' => e = .returned (.tuple #[.agg #[.string r1, .string r2], .int .i64 r3]) ∧ Below w.heap.size w w' := by
 have hu25 := Tryd.underlying25
 have hu29 := Tryd.underlying29
 have HR0_3 := Aside0.mk hr0_3
 have HC0_3 := Aside0.mk hc0_3
 clear hr0_3 hc0_3
 have HB := Aside0.mk (Below.refl w.heap.size w)
 have H : ((r21_nums.f a0_0).bind fun t283 => (if t283 < 0 then (r21_Span.j0 k true a0_0 a0_1 a0_2 l0_3) else ((r21_numbers.f k a0_0 a0_1 a0_2 l0_3 t283).bind fun t284 => (if t284 = true then (if a0_0 = 1 then (if a0_2.toList = ([] : List UInt8) then (if a0_1.toList = ([] : List UInt8) then (if (l0_3.length : Int) > 0 then (r21_Span.j0 k true a0_0 a0_1 a0_2 l0_3) else (r21_Span.j0 k (decide ((l0_3.length : Int) > 0)) a0_0 a0_1 a0_2 l0_3)) else (r21_Span.j0 k (decide ((l0_3.length : Int) > 0)) a0_0 a0_1 a0_2 l0_3)) else (r21_Span.j0 k true a0_0 a0_1 a0_2 l0_3)) else (if a0_1.toList = ([] : List UInt8) then (if a0_2.toList = ([] : List UInt8) then (if (l0_3.length : Int) > 0 then (r21_Span.j0 k true a0_0 a0_1 a0_2 l0_3) else (r21_Span.j0 k (decide ((l0_3.length : Int) > 0)) a0_0 a0_1 a0_2 l0_3)) else (r21_Span.j0 k true a0_0 a0_1 a0_2 l0_3)) else (if a0_2.toList = ([] : List UInt8) then (r21_Span.j0 k (decide ((l0_3.length : Int) > 0)) a0_0 a0_1 a0_2 l0_3) else (r21_Span.j0 k false a0_0 a0_1 a0_2 l0_3)))) else (r21_Span.j0 k true a0_0 a0_1 a0_2 l0_3))))) = some (r1, r2, r3) := h
 clear h
 replace H := Option.bind_eq_some_iff.mp H
 obtain ⟨t283, A20, H⟩ := H
 replace H : (if t283 < 0 then (r21_Span.j0 k true a0_0 a0_1 a0_2 l0_3) else ((r21_numbers.f k a0_0 a0_1 a0_2 l0_3 t283).bind fun t284 => (if t284 = true then (if a0_0 = 1 then (if a0_2.toList = ([] : List UInt8) then (if a0_1.toList = ([] : List UInt8) then (if (l0_3.length : Int) > 0 then (r21_Span.j0 k true a0_0 a0_1 a0_2 l0_3) else (r21_Span.j0 k (decide ((l0_3.length : Int) > 0)) a0_0 a0_1 a0_2 l0_3)) else (r21_Span.j0 k (decide ((l0_3.length : Int) > 0)) a0_0 a0_1 a0_2 l0_3)) else (r21_Span.j0 k true a0_0 a0_1 a0_2 l0_3)) else (if a0_1.toList = ([] : List UInt8) then (if a0_2.toList = ([] : List UInt8) then (if (l0_3.length : Int) > 0 then (r21_Span.j0 k true a0_0 a0_1 a0_2 l0_3) else (r21_Span.j0 k (decide ((l0_3.length : Int) > 0)) a0_0 a0_1 a0_2 l0_3)) else (r21_Span.j0 k true a0_0 a0_1 a0_2 l0_3)) else (if a0_2.toList = ([] : List UInt8) then (r21_Span.j0 k (decide ((l0_3.length : Int) > 0)) a0_0 a0_1 a0_2 l0_3) else (r21_Span.j0 k false a0_0 a0_1 a0_2 l0_3)))) else (r21_Span.j0 k true a0_0 a0_1 a0_2 l0_3)))) = some (r1, r2, r3) := H
 have A2 := Aside0.mk A20
 clear A20
 have HC3 := Aside0.mk H
 clear H
 go_enter Tryd.func22, Tryd.ntmps22
 go_upto_region 2 with (first | ((with_reducible refine gate_dst (N := 1) rfl ?_); (try (refine gate_guard (by rfl) ?_; dsimp only)); refine box_event ?hg (N := 1) ?hd (cs := #[.int .i64 a0_0, .string a0_1, .string a0_2, .slice A0_3 l0_3.length c0_3]) (t := 25) ?hr ?_; (case hd => rfl); (case hg => rfl); (case hr => (go_simp; done)); intro gb281 hg w4 hbox hb; have n0_ := Aside0.mk (below_step (by repeat ((with_reducible exact HB.out))) hb); have n1_ := Aside0.mk (hbox); have n2_ := Aside0.mk ((by rw [hg]; exact (below_size (by repeat ((with_reducible exact HB.out)))) : w.heap.size ≤ gb281)); have n3_ := Aside0.mk ((by rw [hg]; exact (below_size (by repeat ((with_reducible exact HB.out)))) : w.heap.size ≤ gb281)); clear HB; have HB := n0_; have BK281 := n1_; have GW281 := n2_; have GE281 := n3_; clear n0_ n1_ n2_ n3_; clear hb hbox hg) | ((with_reducible refine gate_dst (N := 2) rfl ?_); (try (refine gate_guard (by rfl) ?_; dsimp only)); refine box_event ?hg (N := 2) ?hd (cs := #[.string (⟨#[]⟩ : ByteArray), .string (⟨#[]⟩ : ByteArray)]) (t := 29) ?hr ?_; (case hd => rfl); (case hg => rfl); (case hr => (go_simp; done)); intro gb282 hg w5 hbox hb; have n0_ := Aside0.mk (blk_below (g := gb281) (o := .cells #[.int .i64 a0_0, .string a0_1, .string a0_2, .slice A0_3 l0_3.length c0_3] 25 (0, 0)) (by (with_reducible repeat (refine blk_drew ?_)); exact BK281.out) hb); have n1_ := Aside0.mk (below_step (by repeat ((with_reducible exact HB.out))) hb); have n2_ := Aside0.mk (hbox); have n3_ := Aside0.mk ((by rw [hg]; exact (below_size (by repeat ((with_reducible exact HB.out)))) : w.heap.size ≤ gb282)); have n4_ := Aside0.mk ((by rw [hg]; exact (below_size (by repeat ((with_reducible exact HB.out)))) : w.heap.size ≤ gb282)); have n5_ := Aside0.mk ((by rw [hg]; exact Nat.ne_of_lt (blk_lt (g := gb281) (o := .cells #[.int .i64 a0_0, .string a0_1, .string a0_2, .slice A0_3 l0_3.length c0_3] 25 (0, 0)) (by (with_reducible repeat (refine blk_drew ?_)); exact BK281.out)) : gb281 ≠ gb282)); have n6_ := Aside0.mk ((by rw [hg]; exact Nat.ne_of_gt (blk_lt (g := gb281) (o := .cells #[.int .i64 a0_0, .string a0_1, .string a0_2, .slice A0_3 l0_3.length c0_3] 25 (0, 0)) (by (with_reducible repeat (refine blk_drew ?_)); exact BK281.out)) : gb282 ≠ gb281)); clear BK281; clear HB; have BK281 := n0_; have HB := n1_; have BK282 := n2_; have GW282 := n3_; have GE282 := n4_; have NB281_282 := n5_; have NB282_281 := n6_; clear n0_ n1_ n2_ n3_ n4_ n5_ n6_; clear hb hbox hg; have hnb6 := NB281_282.out; have hnc6 := NB282_281.out; have hcz7_0 : w5.cell? ⟨gb281, 0, none⟩ = some (.int .i64 a0_0) := (blk_cell BK281.out 0).trans rfl; have hcz7_1 : w5.cell? ⟨gb281, 1, none⟩ = some (.string a0_1) := (blk_cell BK281.out 1).trans rfl; have hcz7_2 : w5.cell? ⟨gb281, 2, none⟩ = some (.string a0_2) := (blk_cell BK281.out 2).trans rfl; have hcz7_3 : w5.cell? ⟨gb281, 3, none⟩ = some (.slice A0_3 l0_3.length c0_3) := (blk_cell BK281.out 3).trans rfl; have hfz7_0 := blk_frozen BK281.out 0; have hfz7_1 := blk_frozen BK281.out 1; have hfz7_2 := blk_frozen BK281.out 2; have hfz7_3 := blk_frozen BK281.out 3) | ((with_reducible refine gate_callee (f := 46) rfl ?_); refine goesL_ (some 8) rfl rfl Tryd.func46 (by kernel_rfl) rfl #[.int .i64 a0_0] rfl (by (try simp only [List.map_toArray, List.map_cons, List.map_nil]); rfl) ?_; (with_reducible refine (r21_nums.calls a0_0 t283 _ A2.out).mono ?_); rintro e w8 ⟨rfl, hb⟩; refine ⟨_, rfl, ?_⟩; have n0_ := Aside0.mk (blk_below (g := gb281) (o := .cells #[.int .i64 a0_0, .string a0_1, .string a0_2, .slice A0_3 l0_3.length c0_3] 25 (0, 0)) (by (with_reducible repeat (refine blk_drew ?_)); exact BK281.out) hb); have n1_ := Aside0.mk (blk_below (g := gb282) (o := .cells #[.string (⟨#[]⟩ : ByteArray), .string (⟨#[]⟩ : ByteArray)] 29 (0, 0)) (by (with_reducible repeat (refine blk_drew ?_)); exact BK282.out) hb); have n2_ := Aside0.mk (below_step (by repeat ((with_reducible exact HB.out))) hb); clear BK281; clear BK282; clear HB; have BK281 := n0_; have BK282 := n1_; have HB := n2_; clear n0_ n1_ n2_; (try clear hb); (try clear hb2); (try clear hk); (try clear hi)))
 (try simp only [Act.put, List.setIfInBounds_toArray, List.set_cons_zero, List.set_cons_succ])
 go_cut [53] (fun v53 wc => ∃ (kq : Nat) (x53_2 : Bool), v53 = .bool x53_2 ∧ Aside0 (r21_Span.j0 kq x53_2 a0_0 a0_1 a0_2 l0_3 = some (r1, r2, r3)) ∧ Aside0 (kq ≤ k) ∧ Aside0 (wc.heap[gb281]? = some (.cells #[.int .i64 a0_0, .string a0_1, .string a0_2, (.slice A0_3 l0_3.length c0_3)] 25 (0, 0))) ∧ Aside0 (wc.heap[gb282]? = some (.cells #[.string (⟨#[]⟩ : ByteArray), .string (⟨#[]⟩ : ByteArray)] 29 (0, 0))) ∧ Aside0 (Below w.heap.size w wc))
 case first =>
  have H := HC3.out
  clear HC3
  by_cases c9 : t283 < 0
  ·rw [if_pos c9] at H
   have c9b0 : decide (t283 < 0) = true := decide_eq_true c9
   clear c9
   (skip)
   have H' := Aside0.mk H
   clear H
   go_wp2
   go_meet
   case rel => exact ⟨_, (true), (by rfl), H', ⟨by omega⟩, ⟨by (with_reducible repeat (refine blk_drew ?_)); exact BK281.out⟩, ⟨by (with_reducible repeat (refine blk_drew ?_)); exact BK282.out⟩, ⟨by repeat ((with_reducible exact HB.out))⟩⟩
  ·rw [if_neg c9] at H
   have c9b0 : decide (t283 < 0) = false := decide_eq_false c9
   clear c9
   (skip)
   replace H := Option.bind_eq_some_iff.mp H
   obtain ⟨t284, A100, H⟩ := H
   replace H : (if t284 = true then (if a0_0 = 1 then (if a0_2.toList = ([] : List UInt8) then (if a0_1.toList = ([] : List UInt8) then (if (l0_3.length : Int) > 0 then (r21_Span.j0 k true a0_0 a0_1 a0_2 l0_3) else (r21_Span.j0 k (decide ((l0_3.length : Int) > 0)) a0_0 a0_1 a0_2 l0_3)) else (r21_Span.j0 k (decide ((l0_3.length : Int) > 0)) a0_0 a0_1 a0_2 l0_3)) else (r21_Span.j0 k true a0_0 a0_1 a0_2 l0_3)) else (if a0_1.toList = ([] : List UInt8) then (if a0_2.toList = ([] : List UInt8) then (if (l0_3.length : Int) > 0 then (r21_Span.j0 k true a0_0 a0_1 a0_2 l0_3) else (r21_Span.j0 k (decide ((l0_3.length : Int) > 0)) a0_0 a0_1 a0_2 l0_3)) else (r21_Span.j0 k true a0_0 a0_1 a0_2 l0_3)) else (if a0_2.toList = ([] : List UInt8) then (r21_Span.j0 k (decide ((l0_3.length : Int) > 0)) a0_0 a0_1 a0_2 l0_3) else (r21_Span.j0 k false a0_0 a0_1 a0_2 l0_3)))) else (r21_Span.j0 k true a0_0 a0_1 a0_2 l0_3)) = some (r1, r2, r3) := H
   have A10 := Aside0.mk A100
   clear A100
   by_cases c11 : t284 = true
   ·subst c11
    have H1 : (if a0_0 = 1 then (if a0_2.toList = ([] : List UInt8) then (if a0_1.toList = ([] : List UInt8) then (if (l0_3.length : Int) > 0 then (r21_Span.j0 k true a0_0 a0_1 a0_2 l0_3) else (r21_Span.j0 k (decide ((l0_3.length : Int) > 0)) a0_0 a0_1 a0_2 l0_3)) else (r21_Span.j0 k (decide ((l0_3.length : Int) > 0)) a0_0 a0_1 a0_2 l0_3)) else (r21_Span.j0 k true a0_0 a0_1 a0_2 l0_3)) else (if a0_1.toList = ([] : List UInt8) then (if a0_2.toList = ([] : List UInt8) then (if (l0_3.length : Int) > 0 then (r21_Span.j0 k true a0_0 a0_1 a0_2 l0_3) else (r21_Span.j0 k (decide ((l0_3.length : Int) > 0)) a0_0 a0_1 a0_2 l0_3)) else (r21_Span.j0 k true a0_0 a0_1 a0_2 l0_3)) else (if a0_2.toList = ([] : List UInt8) then (r21_Span.j0 k (decide ((l0_3.length : Int) > 0)) a0_0 a0_1 a0_2 l0_3) else (r21_Span.j0 k false a0_0 a0_1 a0_2 l0_3)))) = some (r1, r2, r3) := by rw [if_pos rfl] at H; exact H
    clear H
    have H := H1
    clear H1
    by_cases c12 : a0_0 = 1
    ·rw [if_pos c12] at H
     have c12b0 : (a0_0 == 1) = true := beq_iff_eq.mpr c12
     have c12b1 : (a0_0 != 1) = false := bne_eq_false_iff_eq.mpr c12
     clear c12
     by_cases c13 : a0_2.toList = ([] : List UInt8)
     ·rw [if_pos c13] at H
      have c13b0 : (a0_2.toList == ([] : List UInt8)) = true := beq_iff_eq.mpr c13
      have c13b1 : (a0_2.toList != ([] : List UInt8)) = false := bne_eq_false_iff_eq.mpr c13
      clear c13
      by_cases c14 : a0_1.toList = ([] : List UInt8)
      ·rw [if_pos c14] at H
       have c14b0 : (a0_1.toList == ([] : List UInt8)) = true := beq_iff_eq.mpr c14
       have c14b1 : (a0_1.toList != ([] : List UInt8)) = false := bne_eq_false_iff_eq.mpr c14
       clear c14
       by_cases c15 : (l0_3.length : Int) > 0
       ·rw [if_pos c15] at H
        have c15b0 : decide (0 < (l0_3.length : Int)) = true := decide_eq_true c15
        have c15b1 : decide (0 < l0_3.length) = true := decide_eq_true (by omega)
        clear c15
        have H' := Aside0.mk H
        clear H
        have hnb16 := NB281_282.out
        have hnc16 := NB282_281.out
        have hcz17_0 : w8.cell? ⟨gb281, 0, none⟩ = some (.int .i64 a0_0) := (blk_cell BK281.out 0).trans rfl
        have hcz17_1 : w8.cell? ⟨gb281, 1, none⟩ = some (.string a0_1) := (blk_cell BK281.out 1).trans rfl
        have hcz17_2 : w8.cell? ⟨gb281, 2, none⟩ = some (.string a0_2) := (blk_cell BK281.out 2).trans rfl
        have hcz17_3 : w8.cell? ⟨gb281, 3, none⟩ = some (.slice A0_3 l0_3.length c0_3) := (blk_cell BK281.out 3).trans rfl
        have hfz17_0 := blk_frozen BK281.out 0
        have hfz17_1 := blk_frozen BK281.out 1
        have hfz17_2 := blk_frozen BK281.out 2
        have hfz17_3 := blk_frozen BK281.out 3
        go_wp2_with ((go_at_call 47; (with_reducible refine (r21_numbers.calls k a0_0 a0_1 a0_2 _ _ l0_3 t283 true _ ?side1 ?side2 A10.out).mono ?_); (case side1 => repeat (exact (Kd.C_below HR0_3.out HB.out))); (case side2 => exact HC0_3.out); rintro e w18 ⟨rfl, hb⟩; have n0_ := Aside0.mk (blk_below (g := gb281) (o := .cells #[.int .i64 a0_0, .string a0_1, .string a0_2, .slice A0_3 l0_3.length c0_3] 25 (0, 0)) (by (with_reducible repeat (refine blk_drew ?_)); exact BK281.out) hb); have n1_ := Aside0.mk (blk_below (g := gb282) (o := .cells #[.string (⟨#[]⟩ : ByteArray), .string (⟨#[]⟩ : ByteArray)] 29 (0, 0)) (by (with_reducible repeat (refine blk_drew ?_)); exact BK282.out) hb); have n2_ := Aside0.mk (below_step (by repeat ((with_reducible exact HB.out))) hb); clear BK281; clear BK282; clear HB; have BK281 := n0_; have BK282 := n1_; have HB := n2_; clear n0_ n1_ n2_; (try clear hb); (try clear hb2); (try clear hk); (try clear hi); have hcz19_0 : w18.cell? ⟨gb281, 0, none⟩ = some (.int .i64 a0_0) := (blk_cell BK281.out 0).trans rfl; have hcz19_1 : w18.cell? ⟨gb281, 1, none⟩ = some (.string a0_1) := (blk_cell BK281.out 1).trans rfl; have hcz19_2 : w18.cell? ⟨gb281, 2, none⟩ = some (.string a0_2) := (blk_cell BK281.out 2).trans rfl; have hcz19_3 : w18.cell? ⟨gb281, 3, none⟩ = some (.slice A0_3 l0_3.length c0_3) := (blk_cell BK281.out 3).trans rfl; have hfz19_0 := blk_frozen BK281.out 0; have hfz19_1 := blk_frozen BK281.out 1; have hfz19_2 := blk_frozen BK281.out 2; have hfz19_3 := blk_frozen BK281.out 3))
        go_meet
        case rel => exact ⟨_, (true), (by rfl), H', ⟨by omega⟩, ⟨by (with_reducible repeat (refine blk_drew ?_)); exact BK281.out⟩, ⟨by (with_reducible repeat (refine blk_drew ?_)); exact BK282.out⟩, ⟨by repeat ((with_reducible exact HB.out))⟩⟩
       ·rw [if_neg c15] at H
        have c15b0 : decide (0 < (l0_3.length : Int)) = false := decide_eq_false c15
        have c15b1 : decide (0 < l0_3.length) = false := decide_eq_false (by omega)
        clear c15
        have H' := Aside0.mk H
        clear H
        have hnb20 := NB281_282.out
        have hnc20 := NB282_281.out
        have hcz21_0 : w8.cell? ⟨gb281, 0, none⟩ = some (.int .i64 a0_0) := (blk_cell BK281.out 0).trans rfl
        have hcz21_1 : w8.cell? ⟨gb281, 1, none⟩ = some (.string a0_1) := (blk_cell BK281.out 1).trans rfl
        have hcz21_2 : w8.cell? ⟨gb281, 2, none⟩ = some (.string a0_2) := (blk_cell BK281.out 2).trans rfl
        have hcz21_3 : w8.cell? ⟨gb281, 3, none⟩ = some (.slice A0_3 l0_3.length c0_3) := (blk_cell BK281.out 3).trans rfl
        have hfz21_0 := blk_frozen BK281.out 0
        have hfz21_1 := blk_frozen BK281.out 1
        have hfz21_2 := blk_frozen BK281.out 2
        have hfz21_3 := blk_frozen BK281.out 3
        go_wp2_with ((go_at_call 47; (with_reducible refine (r21_numbers.calls k a0_0 a0_1 a0_2 _ _ l0_3 t283 true _ ?side1 ?side2 A10.out).mono ?_); (case side1 => repeat (exact (Kd.C_below HR0_3.out HB.out))); (case side2 => exact HC0_3.out); rintro e w22 ⟨rfl, hb⟩; have n0_ := Aside0.mk (blk_below (g := gb281) (o := .cells #[.int .i64 a0_0, .string a0_1, .string a0_2, .slice A0_3 l0_3.length c0_3] 25 (0, 0)) (by (with_reducible repeat (refine blk_drew ?_)); exact BK281.out) hb); have n1_ := Aside0.mk (blk_below (g := gb282) (o := .cells #[.string (⟨#[]⟩ : ByteArray), .string (⟨#[]⟩ : ByteArray)] 29 (0, 0)) (by (with_reducible repeat (refine blk_drew ?_)); exact BK282.out) hb); have n2_ := Aside0.mk (below_step (by repeat ((with_reducible exact HB.out))) hb); clear BK281; clear BK282; clear HB; have BK281 := n0_; have BK282 := n1_; have HB := n2_; clear n0_ n1_ n2_; (try clear hb); (try clear hb2); (try clear hk); (try clear hi); have hcz23_0 : w22.cell? ⟨gb281, 0, none⟩ = some (.int .i64 a0_0) := (blk_cell BK281.out 0).trans rfl; have hcz23_1 : w22.cell? ⟨gb281, 1, none⟩ = some (.string a0_1) := (blk_cell BK281.out 1).trans rfl; have hcz23_2 : w22.cell? ⟨gb281, 2, none⟩ = some (.string a0_2) := (blk_cell BK281.out 2).trans rfl; have hcz23_3 : w22.cell? ⟨gb281, 3, none⟩ = some (.slice A0_3 l0_3.length c0_3) := (blk_cell BK281.out 3).trans rfl; have hfz23_0 := blk_frozen BK281.out 0; have hfz23_1 := blk_frozen BK281.out 1; have hfz23_2 := blk_frozen BK281.out 2; have hfz23_3 := blk_frozen BK281.out 3))
        go_meet
        case rel => exact ⟨_, (decide ((l0_3.length : Int) > 0)), (by (simp [*]; done)), H', ⟨by omega⟩, ⟨by (with_reducible repeat (refine blk_drew ?_)); exact BK281.out⟩, ⟨by (with_reducible repeat (refine blk_drew ?_)); exact BK282.out⟩, ⟨by repeat ((with_reducible exact HB.out))⟩⟩
      ·rw [if_neg c14] at H
       have c14b0 : (a0_1.toList == ([] : List UInt8)) = false := beq_eq_false_iff_ne.mpr c14
       have c14b1 : (a0_1.toList != ([] : List UInt8)) = true := bne_iff_ne.mpr c14
       have H' := Aside0.mk H
       clear H
       have hnb24 := NB281_282.out
       have hnc24 := NB282_281.out
       have hcz25_0 : w8.cell? ⟨gb281, 0, none⟩ = some (.int .i64 a0_0) := (blk_cell BK281.out 0).trans rfl
       have hcz25_1 : w8.cell? ⟨gb281, 1, none⟩ = some (.string a0_1) := (blk_cell BK281.out 1).trans rfl
       have hcz25_2 : w8.cell? ⟨gb281, 2, none⟩ = some (.string a0_2) := (blk_cell BK281.out 2).trans rfl
       have hcz25_3 : w8.cell? ⟨gb281, 3, none⟩ = some (.slice A0_3 l0_3.length c0_3) := (blk_cell BK281.out 3).trans rfl
       have hfz25_0 := blk_frozen BK281.out 0
       have hfz25_1 := blk_frozen BK281.out 1
       have hfz25_2 := blk_frozen BK281.out 2
       have hfz25_3 := blk_frozen BK281.out 3
       go_wp2_with ((go_at_call 47; (with_reducible refine (r21_numbers.calls k a0_0 a0_1 a0_2 _ _ l0_3 t283 true _ ?side1 ?side2 A10.out).mono ?_); (case side1 => repeat (exact (Kd.C_below HR0_3.out HB.out))); (case side2 => exact HC0_3.out); rintro e w26 ⟨rfl, hb⟩; have n0_ := Aside0.mk (blk_below (g := gb281) (o := .cells #[.int .i64 a0_0, .string a0_1, .string a0_2, .slice A0_3 l0_3.length c0_3] 25 (0, 0)) (by (with_reducible repeat (refine blk_drew ?_)); exact BK281.out) hb); have n1_ := Aside0.mk (blk_below (g := gb282) (o := .cells #[.string (⟨#[]⟩ : ByteArray), .string (⟨#[]⟩ : ByteArray)] 29 (0, 0)) (by (with_reducible repeat (refine blk_drew ?_)); exact BK282.out) hb); have n2_ := Aside0.mk (below_step (by repeat ((with_reducible exact HB.out))) hb); clear BK281; clear BK282; clear HB; have BK281 := n0_; have BK282 := n1_; have HB := n2_; clear n0_ n1_ n2_; (try clear hb); (try clear hb2); (try clear hk); (try clear hi); have hcz27_0 : w26.cell? ⟨gb281, 0, none⟩ = some (.int .i64 a0_0) := (blk_cell BK281.out 0).trans rfl; have hcz27_1 : w26.cell? ⟨gb281, 1, none⟩ = some (.string a0_1) := (blk_cell BK281.out 1).trans rfl; have hcz27_2 : w26.cell? ⟨gb281, 2, none⟩ = some (.string a0_2) := (blk_cell BK281.out 2).trans rfl; have hcz27_3 : w26.cell? ⟨gb281, 3, none⟩ = some (.slice A0_3 l0_3.length c0_3) := (blk_cell BK281.out 3).trans rfl; have hfz27_0 := blk_frozen BK281.out 0; have hfz27_1 := blk_frozen BK281.out 1; have hfz27_2 := blk_frozen BK281.out 2; have hfz27_3 := blk_frozen BK281.out 3))
       go_meet
       case rel => exact ⟨_, (decide ((l0_3.length : Int) > 0)), (by (simp; done)), H', ⟨by omega⟩, ⟨by (with_reducible repeat (refine blk_drew ?_)); exact BK281.out⟩, ⟨by (with_reducible repeat (refine blk_drew ?_)); exact BK282.out⟩, ⟨by repeat ((with_reducible exact HB.out))⟩⟩
     ·rw [if_neg c13] at H
      have c13b0 : (a0_2.toList == ([] : List UInt8)) = false := beq_eq_false_iff_ne.mpr c13
      have c13b1 : (a0_2.toList != ([] : List UInt8)) = true := bne_iff_ne.mpr c13
      have H' := Aside0.mk H
      clear H
      have hnb28 := NB281_282.out
      have hnc28 := NB282_281.out
      have hcz29_0 : w8.cell? ⟨gb281, 0, none⟩ = some (.int .i64 a0_0) := (blk_cell BK281.out 0).trans rfl
      have hcz29_1 : w8.cell? ⟨gb281, 1, none⟩ = some (.string a0_1) := (blk_cell BK281.out 1).trans rfl
      have hcz29_2 : w8.cell? ⟨gb281, 2, none⟩ = some (.string a0_2) := (blk_cell BK281.out 2).trans rfl
      have hcz29_3 : w8.cell? ⟨gb281, 3, none⟩ = some (.slice A0_3 l0_3.length c0_3) := (blk_cell BK281.out 3).trans rfl
      have hfz29_0 := blk_frozen BK281.out 0
      have hfz29_1 := blk_frozen BK281.out 1
      have hfz29_2 := blk_frozen BK281.out 2
      have hfz29_3 := blk_frozen BK281.out 3
      go_wp2_with ((go_at_call 47; (with_reducible refine (r21_numbers.calls k a0_0 a0_1 a0_2 _ _ l0_3 t283 true _ ?side1 ?side2 A10.out).mono ?_); (case side1 => repeat (exact (Kd.C_below HR0_3.out HB.out))); (case side2 => exact HC0_3.out); rintro e w30 ⟨rfl, hb⟩; have n0_ := Aside0.mk (blk_below (g := gb281) (o := .cells #[.int .i64 a0_0, .string a0_1, .string a0_2, .slice A0_3 l0_3.length c0_3] 25 (0, 0)) (by (with_reducible repeat (refine blk_drew ?_)); exact BK281.out) hb); have n1_ := Aside0.mk (blk_below (g := gb282) (o := .cells #[.string (⟨#[]⟩ : ByteArray), .string (⟨#[]⟩ : ByteArray)] 29 (0, 0)) (by (with_reducible repeat (refine blk_drew ?_)); exact BK282.out) hb); have n2_ := Aside0.mk (below_step (by repeat ((with_reducible exact HB.out))) hb); clear BK281; clear BK282; clear HB; have BK281 := n0_; have BK282 := n1_; have HB := n2_; clear n0_ n1_ n2_; (try clear hb); (try clear hb2); (try clear hk); (try clear hi); have hcz31_0 : w30.cell? ⟨gb281, 0, none⟩ = some (.int .i64 a0_0) := (blk_cell BK281.out 0).trans rfl; have hcz31_1 : w30.cell? ⟨gb281, 1, none⟩ = some (.string a0_1) := (blk_cell BK281.out 1).trans rfl; have hcz31_2 : w30.cell? ⟨gb281, 2, none⟩ = some (.string a0_2) := (blk_cell BK281.out 2).trans rfl; have hcz31_3 : w30.cell? ⟨gb281, 3, none⟩ = some (.slice A0_3 l0_3.length c0_3) := (blk_cell BK281.out 3).trans rfl; have hfz31_0 := blk_frozen BK281.out 0; have hfz31_1 := blk_frozen BK281.out 1; have hfz31_2 := blk_frozen BK281.out 2; have hfz31_3 := blk_frozen BK281.out 3))
      go_meet
      case rel => exact ⟨_, (true), (by rfl), H', ⟨by omega⟩, ⟨by (with_reducible repeat (refine blk_drew ?_)); exact BK281.out⟩, ⟨by (with_reducible repeat (refine blk_drew ?_)); exact BK282.out⟩, ⟨by repeat ((with_reducible exact HB.out))⟩⟩
    ·rw [if_neg c12] at H
     have c12b0 : (a0_0 == 1) = false := beq_eq_false_iff_ne.mpr c12
     have c12b1 : (a0_0 != 1) = true := bne_iff_ne.mpr c12
     by_cases c32 : a0_1.toList = ([] : List UInt8)
     ·rw [if_pos c32] at H
      have c32b0 : (a0_1.toList == ([] : List UInt8)) = true := beq_iff_eq.mpr c32
      have c32b1 : (a0_1.toList != ([] : List UInt8)) = false := bne_eq_false_iff_eq.mpr c32
      clear c32
      by_cases c33 : a0_2.toList = ([] : List UInt8)
      ·rw [if_pos c33] at H
       have c33b0 : (a0_2.toList == ([] : List UInt8)) = true := beq_iff_eq.mpr c33
       have c33b1 : (a0_2.toList != ([] : List UInt8)) = false := bne_eq_false_iff_eq.mpr c33
       clear c33
       by_cases c34 : (l0_3.length : Int) > 0
       ·rw [if_pos c34] at H
        have c34b0 : decide (0 < (l0_3.length : Int)) = true := decide_eq_true c34
        have c34b1 : decide (0 < l0_3.length) = true := decide_eq_true (by omega)
        clear c34
        have H' := Aside0.mk H
        clear H
        have hnb35 := NB281_282.out
        have hnc35 := NB282_281.out
        have hcz36_0 : w8.cell? ⟨gb281, 0, none⟩ = some (.int .i64 a0_0) := (blk_cell BK281.out 0).trans rfl
        have hcz36_1 : w8.cell? ⟨gb281, 1, none⟩ = some (.string a0_1) := (blk_cell BK281.out 1).trans rfl
        have hcz36_2 : w8.cell? ⟨gb281, 2, none⟩ = some (.string a0_2) := (blk_cell BK281.out 2).trans rfl
        have hcz36_3 : w8.cell? ⟨gb281, 3, none⟩ = some (.slice A0_3 l0_3.length c0_3) := (blk_cell BK281.out 3).trans rfl
        have hfz36_0 := blk_frozen BK281.out 0
        have hfz36_1 := blk_frozen BK281.out 1
        have hfz36_2 := blk_frozen BK281.out 2
        have hfz36_3 := blk_frozen BK281.out 3
        go_wp2_with ((go_at_call 47; (with_reducible refine (r21_numbers.calls k a0_0 a0_1 a0_2 _ _ l0_3 t283 true _ ?side1 ?side2 A10.out).mono ?_); (case side1 => repeat (exact (Kd.C_below HR0_3.out HB.out))); (case side2 => exact HC0_3.out); rintro e w37 ⟨rfl, hb⟩; have n0_ := Aside0.mk (blk_below (g := gb281) (o := .cells #[.int .i64 a0_0, .string a0_1, .string a0_2, .slice A0_3 l0_3.length c0_3] 25 (0, 0)) (by (with_reducible repeat (refine blk_drew ?_)); exact BK281.out) hb); have n1_ := Aside0.mk (blk_below (g := gb282) (o := .cells #[.string (⟨#[]⟩ : ByteArray), .string (⟨#[]⟩ : ByteArray)] 29 (0, 0)) (by (with_reducible repeat (refine blk_drew ?_)); exact BK282.out) hb); have n2_ := Aside0.mk (below_step (by repeat ((with_reducible exact HB.out))) hb); clear BK281; clear BK282; clear HB; have BK281 := n0_; have BK282 := n1_; have HB := n2_; clear n0_ n1_ n2_; (try clear hb); (try clear hb2); (try clear hk); (try clear hi); have hcz38_0 : w37.cell? ⟨gb281, 0, none⟩ = some (.int .i64 a0_0) := (blk_cell BK281.out 0).trans rfl; have hcz38_1 : w37.cell? ⟨gb281, 1, none⟩ = some (.string a0_1) := (blk_cell BK281.out 1).trans rfl; have hcz38_2 : w37.cell? ⟨gb281, 2, none⟩ = some (.string a0_2) := (blk_cell BK281.out 2).trans rfl; have hcz38_3 : w37.cell? ⟨gb281, 3, none⟩ = some (.slice A0_3 l0_3.length c0_3) := (blk_cell BK281.out 3).trans rfl; have hfz38_0 := blk_frozen BK281.out 0; have hfz38_1 := blk_frozen BK281.out 1; have hfz38_2 := blk_frozen BK281.out 2; have hfz38_3 := blk_frozen BK281.out 3))
        go_meet
        case rel => exact ⟨_, (true), (by rfl), H', ⟨by omega⟩, ⟨by (with_reducible repeat (refine blk_drew ?_)); exact BK281.out⟩, ⟨by (with_reducible repeat (refine blk_drew ?_)); exact BK282.out⟩, ⟨by repeat ((with_reducible exact HB.out))⟩⟩
       ·rw [if_neg c34] at H
        have c34b0 : decide (0 < (l0_3.length : Int)) = false := decide_eq_false c34
        have c34b1 : decide (0 < l0_3.length) = false := decide_eq_false (by omega)
        clear c34
        have H' := Aside0.mk H
        clear H
        have hnb39 := NB281_282.out
        have hnc39 := NB282_281.out
        have hcz40_0 : w8.cell? ⟨gb281, 0, none⟩ = some (.int .i64 a0_0) := (blk_cell BK281.out 0).trans rfl
        have hcz40_1 : w8.cell? ⟨gb281, 1, none⟩ = some (.string a0_1) := (blk_cell BK281.out 1).trans rfl
        have hcz40_2 : w8.cell? ⟨gb281, 2, none⟩ = some (.string a0_2) := (blk_cell BK281.out 2).trans rfl
        have hcz40_3 : w8.cell? ⟨gb281, 3, none⟩ = some (.slice A0_3 l0_3.length c0_3) := (blk_cell BK281.out 3).trans rfl
        have hfz40_0 := blk_frozen BK281.out 0
        have hfz40_1 := blk_frozen BK281.out 1
        have hfz40_2 := blk_frozen BK281.out 2
        have hfz40_3 := blk_frozen BK281.out 3
        go_wp2_with ((go_at_call 47; (with_reducible refine (r21_numbers.calls k a0_0 a0_1 a0_2 _ _ l0_3 t283 true _ ?side1 ?side2 A10.out).mono ?_); (case side1 => repeat (exact (Kd.C_below HR0_3.out HB.out))); (case side2 => exact HC0_3.out); rintro e w41 ⟨rfl, hb⟩; have n0_ := Aside0.mk (blk_below (g := gb281) (o := .cells #[.int .i64 a0_0, .string a0_1, .string a0_2, .slice A0_3 l0_3.length c0_3] 25 (0, 0)) (by (with_reducible repeat (refine blk_drew ?_)); exact BK281.out) hb); have n1_ := Aside0.mk (blk_below (g := gb282) (o := .cells #[.string (⟨#[]⟩ : ByteArray), .string (⟨#[]⟩ : ByteArray)] 29 (0, 0)) (by (with_reducible repeat (refine blk_drew ?_)); exact BK282.out) hb); have n2_ := Aside0.mk (below_step (by repeat ((with_reducible exact HB.out))) hb); clear BK281; clear BK282; clear HB; have BK281 := n0_; have BK282 := n1_; have HB := n2_; clear n0_ n1_ n2_; (try clear hb); (try clear hb2); (try clear hk); (try clear hi); have hcz42_0 : w41.cell? ⟨gb281, 0, none⟩ = some (.int .i64 a0_0) := (blk_cell BK281.out 0).trans rfl; have hcz42_1 : w41.cell? ⟨gb281, 1, none⟩ = some (.string a0_1) := (blk_cell BK281.out 1).trans rfl; have hcz42_2 : w41.cell? ⟨gb281, 2, none⟩ = some (.string a0_2) := (blk_cell BK281.out 2).trans rfl; have hcz42_3 : w41.cell? ⟨gb281, 3, none⟩ = some (.slice A0_3 l0_3.length c0_3) := (blk_cell BK281.out 3).trans rfl; have hfz42_0 := blk_frozen BK281.out 0; have hfz42_1 := blk_frozen BK281.out 1; have hfz42_2 := blk_frozen BK281.out 2; have hfz42_3 := blk_frozen BK281.out 3))
        go_meet
        case rel => exact ⟨_, (decide ((l0_3.length : Int) > 0)), (by (simp [*]; done)), H', ⟨by omega⟩, ⟨by (with_reducible repeat (refine blk_drew ?_)); exact BK281.out⟩, ⟨by (with_reducible repeat (refine blk_drew ?_)); exact BK282.out⟩, ⟨by repeat ((with_reducible exact HB.out))⟩⟩
      ·rw [if_neg c33] at H
       have c33b0 : (a0_2.toList == ([] : List UInt8)) = false := beq_eq_false_iff_ne.mpr c33
       have c33b1 : (a0_2.toList != ([] : List UInt8)) = true := bne_iff_ne.mpr c33
       have H' := Aside0.mk H
       clear H
       have hnb43 := NB281_282.out
       have hnc43 := NB282_281.out
       have hcz44_0 : w8.cell? ⟨gb281, 0, none⟩ = some (.int .i64 a0_0) := (blk_cell BK281.out 0).trans rfl
       have hcz44_1 : w8.cell? ⟨gb281, 1, none⟩ = some (.string a0_1) := (blk_cell BK281.out 1).trans rfl
       have hcz44_2 : w8.cell? ⟨gb281, 2, none⟩ = some (.string a0_2) := (blk_cell BK281.out 2).trans rfl
       have hcz44_3 : w8.cell? ⟨gb281, 3, none⟩ = some (.slice A0_3 l0_3.length c0_3) := (blk_cell BK281.out 3).trans rfl
       have hfz44_0 := blk_frozen BK281.out 0
       have hfz44_1 := blk_frozen BK281.out 1
       have hfz44_2 := blk_frozen BK281.out 2
       have hfz44_3 := blk_frozen BK281.out 3
       go_wp2_with ((go_at_call 47; (with_reducible refine (r21_numbers.calls k a0_0 a0_1 a0_2 _ _ l0_3 t283 true _ ?side1 ?side2 A10.out).mono ?_); (case side1 => repeat (exact (Kd.C_below HR0_3.out HB.out))); (case side2 => exact HC0_3.out); rintro e w45 ⟨rfl, hb⟩; have n0_ := Aside0.mk (blk_below (g := gb281) (o := .cells #[.int .i64 a0_0, .string a0_1, .string a0_2, .slice A0_3 l0_3.length c0_3] 25 (0, 0)) (by (with_reducible repeat (refine blk_drew ?_)); exact BK281.out) hb); have n1_ := Aside0.mk (blk_below (g := gb282) (o := .cells #[.string (⟨#[]⟩ : ByteArray), .string (⟨#[]⟩ : ByteArray)] 29 (0, 0)) (by (with_reducible repeat (refine blk_drew ?_)); exact BK282.out) hb); have n2_ := Aside0.mk (below_step (by repeat ((with_reducible exact HB.out))) hb); clear BK281; clear BK282; clear HB; have BK281 := n0_; have BK282 := n1_; have HB := n2_; clear n0_ n1_ n2_; (try clear hb); (try clear hb2); (try clear hk); (try clear hi); have hcz46_0 : w45.cell? ⟨gb281, 0, none⟩ = some (.int .i64 a0_0) := (blk_cell BK281.out 0).trans rfl; have hcz46_1 : w45.cell? ⟨gb281, 1, none⟩ = some (.string a0_1) := (blk_cell BK281.out 1).trans rfl; have hcz46_2 : w45.cell? ⟨gb281, 2, none⟩ = some (.string a0_2) := (blk_cell BK281.out 2).trans rfl; have hcz46_3 : w45.cell? ⟨gb281, 3, none⟩ = some (.slice A0_3 l0_3.length c0_3) := (blk_cell BK281.out 3).trans rfl; have hfz46_0 := blk_frozen BK281.out 0; have hfz46_1 := blk_frozen BK281.out 1; have hfz46_2 := blk_frozen BK281.out 2; have hfz46_3 := blk_frozen BK281.out 3))
       go_meet
       case rel => exact ⟨_, (true), (by rfl), H', ⟨by omega⟩, ⟨by (with_reducible repeat (refine blk_drew ?_)); exact BK281.out⟩, ⟨by (with_reducible repeat (refine blk_drew ?_)); exact BK282.out⟩, ⟨by repeat ((with_reducible exact HB.out))⟩⟩
     ·rw [if_neg c32] at H
      have c32b0 : (a0_1.toList == ([] : List UInt8)) = false := beq_eq_false_iff_ne.mpr c32
      have c32b1 : (a0_1.toList != ([] : List UInt8)) = true := bne_iff_ne.mpr c32
      by_cases c47 : a0_2.toList = ([] : List UInt8)
      ·rw [if_pos c47] at H
       have c47b0 : (a0_2.toList == ([] : List UInt8)) = true := beq_iff_eq.mpr c47
       have c47b1 : (a0_2.toList != ([] : List UInt8)) = false := bne_eq_false_iff_eq.mpr c47
       clear c47
       have H' := Aside0.mk H
       clear H
       have hnb48 := NB281_282.out
       have hnc48 := NB282_281.out
       have hcz49_0 : w8.cell? ⟨gb281, 0, none⟩ = some (.int .i64 a0_0) := (blk_cell BK281.out 0).trans rfl
       have hcz49_1 : w8.cell? ⟨gb281, 1, none⟩ = some (.string a0_1) := (blk_cell BK281.out 1).trans rfl
       have hcz49_2 : w8.cell? ⟨gb281, 2, none⟩ = some (.string a0_2) := (blk_cell BK281.out 2).trans rfl
       have hcz49_3 : w8.cell? ⟨gb281, 3, none⟩ = some (.slice A0_3 l0_3.length c0_3) := (blk_cell BK281.out 3).trans rfl
       have hfz49_0 := blk_frozen BK281.out 0
       have hfz49_1 := blk_frozen BK281.out 1
       have hfz49_2 := blk_frozen BK281.out 2
       have hfz49_3 := blk_frozen BK281.out 3
       go_wp2_with ((go_at_call 47; (with_reducible refine (r21_numbers.calls k a0_0 a0_1 a0_2 _ _ l0_3 t283 true _ ?side1 ?side2 A10.out).mono ?_); (case side1 => repeat (exact (Kd.C_below HR0_3.out HB.out))); (case side2 => exact HC0_3.out); rintro e w50 ⟨rfl, hb⟩; have n0_ := Aside0.mk (blk_below (g := gb281) (o := .cells #[.int .i64 a0_0, .string a0_1, .string a0_2, .slice A0_3 l0_3.length c0_3] 25 (0, 0)) (by (with_reducible repeat (refine blk_drew ?_)); exact BK281.out) hb); have n1_ := Aside0.mk (blk_below (g := gb282) (o := .cells #[.string (⟨#[]⟩ : ByteArray), .string (⟨#[]⟩ : ByteArray)] 29 (0, 0)) (by (with_reducible repeat (refine blk_drew ?_)); exact BK282.out) hb); have n2_ := Aside0.mk (below_step (by repeat ((with_reducible exact HB.out))) hb); clear BK281; clear BK282; clear HB; have BK281 := n0_; have BK282 := n1_; have HB := n2_; clear n0_ n1_ n2_; (try clear hb); (try clear hb2); (try clear hk); (try clear hi); have hcz51_0 : w50.cell? ⟨gb281, 0, none⟩ = some (.int .i64 a0_0) := (blk_cell BK281.out 0).trans rfl; have hcz51_1 : w50.cell? ⟨gb281, 1, none⟩ = some (.string a0_1) := (blk_cell BK281.out 1).trans rfl; have hcz51_2 : w50.cell? ⟨gb281, 2, none⟩ = some (.string a0_2) := (blk_cell BK281.out 2).trans rfl; have hcz51_3 : w50.cell? ⟨gb281, 3, none⟩ = some (.slice A0_3 l0_3.length c0_3) := (blk_cell BK281.out 3).trans rfl; have hfz51_0 := blk_frozen BK281.out 0; have hfz51_1 := blk_frozen BK281.out 1; have hfz51_2 := blk_frozen BK281.out 2; have hfz51_3 := blk_frozen BK281.out 3))
       go_meet
       case rel => exact ⟨_, (decide ((l0_3.length : Int) > 0)), (by (simp; done)), H', ⟨by omega⟩, ⟨by (with_reducible repeat (refine blk_drew ?_)); exact BK281.out⟩, ⟨by (with_reducible repeat (refine blk_drew ?_)); exact BK282.out⟩, ⟨by repeat ((with_reducible exact HB.out))⟩⟩
      ·rw [if_neg c47] at H
       have c47b0 : (a0_2.toList == ([] : List UInt8)) = false := beq_eq_false_iff_ne.mpr c47
       have c47b1 : (a0_2.toList != ([] : List UInt8)) = true := bne_iff_ne.mpr c47
       have H' := Aside0.mk H
       clear H
       have hnb52 := NB281_282.out
       have hnc52 := NB282_281.out
       have hcz53_0 : w8.cell? ⟨gb281, 0, none⟩ = some (.int .i64 a0_0) := (blk_cell BK281.out 0).trans rfl
       have hcz53_1 : w8.cell? ⟨gb281, 1, none⟩ = some (.string a0_1) := (blk_cell BK281.out 1).trans rfl
       have hcz53_2 : w8.cell? ⟨gb281, 2, none⟩ = some (.string a0_2) := (blk_cell BK281.out 2).trans rfl
       have hcz53_3 : w8.cell? ⟨gb281, 3, none⟩ = some (.slice A0_3 l0_3.length c0_3) := (blk_cell BK281.out 3).trans rfl
       have hfz53_0 := blk_frozen BK281.out 0
       have hfz53_1 := blk_frozen BK281.out 1
       have hfz53_2 := blk_frozen BK281.out 2
       have hfz53_3 := blk_frozen BK281.out 3
       go_wp2_with ((go_at_call 47; (with_reducible refine (r21_numbers.calls k a0_0 a0_1 a0_2 _ _ l0_3 t283 true _ ?side1 ?side2 A10.out).mono ?_); (case side1 => repeat (exact (Kd.C_below HR0_3.out HB.out))); (case side2 => exact HC0_3.out); rintro e w54 ⟨rfl, hb⟩; have n0_ := Aside0.mk (blk_below (g := gb281) (o := .cells #[.int .i64 a0_0, .string a0_1, .string a0_2, .slice A0_3 l0_3.length c0_3] 25 (0, 0)) (by (with_reducible repeat (refine blk_drew ?_)); exact BK281.out) hb); have n1_ := Aside0.mk (blk_below (g := gb282) (o := .cells #[.string (⟨#[]⟩ : ByteArray), .string (⟨#[]⟩ : ByteArray)] 29 (0, 0)) (by (with_reducible repeat (refine blk_drew ?_)); exact BK282.out) hb); have n2_ := Aside0.mk (below_step (by repeat ((with_reducible exact HB.out))) hb); clear BK281; clear BK282; clear HB; have BK281 := n0_; have BK282 := n1_; have HB := n2_; clear n0_ n1_ n2_; (try clear hb); (try clear hb2); (try clear hk); (try clear hi); have hcz55_0 : w54.cell? ⟨gb281, 0, none⟩ = some (.int .i64 a0_0) := (blk_cell BK281.out 0).trans rfl; have hcz55_1 : w54.cell? ⟨gb281, 1, none⟩ = some (.string a0_1) := (blk_cell BK281.out 1).trans rfl; have hcz55_2 : w54.cell? ⟨gb281, 2, none⟩ = some (.string a0_2) := (blk_cell BK281.out 2).trans rfl; have hcz55_3 : w54.cell? ⟨gb281, 3, none⟩ = some (.slice A0_3 l0_3.length c0_3) := (blk_cell BK281.out 3).trans rfl; have hfz55_0 := blk_frozen BK281.out 0; have hfz55_1 := blk_frozen BK281.out 1; have hfz55_2 := blk_frozen BK281.out 2; have hfz55_3 := blk_frozen BK281.out 3))
       go_meet
       case rel => exact ⟨_, (false), (by rfl), H', ⟨by omega⟩, ⟨by (with_reducible repeat (refine blk_drew ?_)); exact BK281.out⟩, ⟨by (with_reducible repeat (refine blk_drew ?_)); exact BK282.out⟩, ⟨by repeat ((with_reducible exact HB.out))⟩⟩
   ·replace c11 := Bool.eq_false_iff.mpr c11
    subst c11
    have H1 : (r21_Span.j0 k true a0_0 a0_1 a0_2 l0_3) = some (r1, r2, r3) := by rw [if_neg (show ¬ (false = true) by decide)] at H; exact H
    clear H
    have H := H1
    clear H1
    have H' := Aside0.mk H
    clear H
    have hnb56 := NB281_282.out
    have hnc56 := NB282_281.out
    have hcz57_0 : w8.cell? ⟨gb281, 0, none⟩ = some (.int .i64 a0_0) := (blk_cell BK281.out 0).trans rfl
    have hcz57_1 : w8.cell? ⟨gb281, 1, none⟩ = some (.string a0_1) := (blk_cell BK281.out 1).trans rfl
    have hcz57_2 : w8.cell? ⟨gb281, 2, none⟩ = some (.string a0_2) := (blk_cell BK281.out 2).trans rfl
    have hcz57_3 : w8.cell? ⟨gb281, 3, none⟩ = some (.slice A0_3 l0_3.length c0_3) := (blk_cell BK281.out 3).trans rfl
    have hfz57_0 := blk_frozen BK281.out 0
    have hfz57_1 := blk_frozen BK281.out 1
    have hfz57_2 := blk_frozen BK281.out 2
    have hfz57_3 := blk_frozen BK281.out 3
    go_wp2_with ((go_at_call 47; (with_reducible refine (r21_numbers.calls k a0_0 a0_1 a0_2 _ _ l0_3 t283 false _ ?side1 ?side2 A10.out).mono ?_); (case side1 => repeat (exact (Kd.C_below HR0_3.out HB.out))); (case side2 => exact HC0_3.out); rintro e w58 ⟨rfl, hb⟩; have n0_ := Aside0.mk (blk_below (g := gb281) (o := .cells #[.int .i64 a0_0, .string a0_1, .string a0_2, .slice A0_3 l0_3.length c0_3] 25 (0, 0)) (by (with_reducible repeat (refine blk_drew ?_)); exact BK281.out) hb); have n1_ := Aside0.mk (blk_below (g := gb282) (o := .cells #[.string (⟨#[]⟩ : ByteArray), .string (⟨#[]⟩ : ByteArray)] 29 (0, 0)) (by (with_reducible repeat (refine blk_drew ?_)); exact BK282.out) hb); have n2_ := Aside0.mk (below_step (by repeat ((with_reducible exact HB.out))) hb); clear BK281; clear BK282; clear HB; have BK281 := n0_; have BK282 := n1_; have HB := n2_; clear n0_ n1_ n2_; (try clear hb); (try clear hb2); (try clear hk); (try clear hi)))
    go_meet
    case rel => exact ⟨_, (true), (by rfl), H', ⟨by omega⟩, ⟨by (with_reducible repeat (refine blk_drew ?_)); exact BK281.out⟩, ⟨by (with_reducible repeat (refine blk_drew ?_)); exact BK282.out⟩, ⟨by repeat ((with_reducible exact HB.out))⟩⟩
 case rest =>
  clear HC3
  try clear c1
  try clear c2
  try clear p2
  try clear c3
  try clear c4
  try clear c5
  try clear c6
  try clear c9
  try clear c9b0
  try clear c11
  try clear c12
  try clear c12b0
  try clear c12b1
  try clear c13
  try clear c13b0
  try clear c13b1
  try clear c14
  try clear c14b0
  try clear c14b1
  try clear c15
  try clear c15b0
  try clear c15b1
  try clear c16
  try clear c20
  try clear c22
  try clear c24
  try clear c28
  try clear c32
  try clear c32b0
  try clear c32b1
  try clear c33
  try clear c33b0
  try clear c33b1
  try clear c34
  try clear c34b0
  try clear c34b1
  try clear c35
  try clear c39
  try clear c43
  try clear c46
  try clear c47
  try clear c47b0
  try clear c47b1
  try clear c48
  try clear c52
  try clear c56
  try clear hcz17_0
  try clear hcz17_1
  try clear hcz17_2
  try clear hcz17_3
  try clear hcz19_0
  try clear hcz19_1
  try clear hcz19_2
  try clear hcz19_3
  try clear hcz21_0
  try clear hcz21_1
  try clear hcz21_2
  try clear hcz21_3
  try clear hcz23_0
  try clear hcz23_1
  try clear hcz23_2
  try clear hcz23_3
  try clear hcz25_0
  try clear hcz25_1
  try clear hcz25_2
  try clear hcz25_3
  try clear hcz27_0
  try clear hcz27_1
  try clear hcz27_2
  try clear hcz27_3
  try clear hcz29_0
  try clear hcz29_1
  try clear hcz29_2
  try clear hcz29_3
  try clear hcz31_0
  try clear hcz31_1
  try clear hcz31_2
  try clear hcz31_3
  try clear hcz36_0
  try clear hcz36_1
  try clear hcz36_2
  try clear hcz36_3
  try clear hcz38_0
  try clear hcz38_1
  try clear hcz38_2
  try clear hcz38_3
  try clear hcz40_0
  try clear hcz40_1
  try clear hcz40_2
  try clear hcz40_3
  try clear hcz42_0
  try clear hcz42_1
  try clear hcz42_2
  try clear hcz42_3
  try clear hcz44_0
  try clear hcz44_1
  try clear hcz44_2
  try clear hcz44_3
  try clear hcz46_0
  try clear hcz46_1
  try clear hcz46_2
  try clear hcz46_3
  try clear hcz49_0
  try clear hcz49_1
  try clear hcz49_2
  try clear hcz49_3
  try clear hcz51_0
  try clear hcz51_1
  try clear hcz51_2
  try clear hcz51_3
  try clear hcz53_0
  try clear hcz53_1
  try clear hcz53_2
  try clear hcz53_3
  try clear hcz55_0
  try clear hcz55_1
  try clear hcz55_2
  try clear hcz55_3
  try clear hcz57_0
  try clear hcz57_1
  try clear hcz57_2
  try clear hcz57_3
  try clear hcz7_0
  try clear hcz7_1
  try clear hcz7_2
  try clear hcz7_3
  try clear hfz17_0
  try clear hfz17_1
  try clear hfz17_2
  try clear hfz17_3
  try clear hfz19_0
  try clear hfz19_1
  try clear hfz19_2
  try clear hfz19_3
  try clear hfz21_0
  try clear hfz21_1
  try clear hfz21_2
  try clear hfz21_3
  try clear hfz23_0
  try clear hfz23_1
  try clear hfz23_2
  try clear hfz23_3
  try clear hfz25_0
  try clear hfz25_1
  try clear hfz25_2
  try clear hfz25_3
  try clear hfz27_0
  try clear hfz27_1
  try clear hfz27_2
  try clear hfz27_3
  try clear hfz29_0
  try clear hfz29_1
  try clear hfz29_2
  try clear hfz29_3
  try clear hfz31_0
  try clear hfz31_1
  try clear hfz31_2
  try clear hfz31_3
  try clear hfz36_0
  try clear hfz36_1
  try clear hfz36_2
  try clear hfz36_3
  try clear hfz38_0
  try clear hfz38_1
  try clear hfz38_2
  try clear hfz38_3
  try clear hfz40_0
  try clear hfz40_1
  try clear hfz40_2
  try clear hfz40_3
  try clear hfz42_0
  try clear hfz42_1
  try clear hfz42_2
  try clear hfz42_3
  try clear hfz44_0
  try clear hfz44_1
  try clear hfz44_2
  try clear hfz44_3
  try clear hfz46_0
  try clear hfz46_1
  try clear hfz46_2
  try clear hfz46_3
  try clear hfz49_0
  try clear hfz49_1
  try clear hfz49_2
  try clear hfz49_3
  try clear hfz51_0
  try clear hfz51_1
  try clear hfz51_2
  try clear hfz51_3
  try clear hfz53_0
  try clear hfz53_1
  try clear hfz53_2
  try clear hfz53_3
  try clear hfz55_0
  try clear hfz55_1
  try clear hfz55_2
  try clear hfz55_3
  try clear hfz57_0
  try clear hfz57_1
  try clear hfz57_2
  try clear hfz57_3
  try clear hfz7_0
  try clear hfz7_1
  try clear hfz7_2
  try clear hfz7_3
  obtain ⟨kq, x53_2, rfl, HA, HJ2, BK281, BK282, HB⟩ := hcut
  cases kq with
  | zero => exact absurd HA.out (by simp [r21_Span.j0])
  | succ kj2 =>
   have H := HA.out
   clear HA
   simp only [r21_Span.j0] at H
   by_cases c59 : x53_2 = true
   ·subst c59
    have H1 : (some ((⟨#[]⟩ : ByteArray), (⟨#[]⟩ : ByteArray), 2)) = some (r1, r2, r3) := by rw [if_pos rfl] at H; exact H
    clear H
    have H := H1
    clear H1
    simp only [Option.some.injEq, Prod.mk.injEq] at H
    obtain ⟨rfl, rfl, rfl⟩ := H
    have hnb60 := NB282_281.out
    have hnc60 := NB281_282.out
    have hcz61_0 : wc.cell? ⟨gb282, 0, none⟩ = some (.string (⟨#[]⟩ : ByteArray)) := (blk_cell BK282.out 0).trans rfl
    have hcz61_1 : wc.cell? ⟨gb282, 1, none⟩ = some (.string (⟨#[]⟩ : ByteArray)) := (blk_cell BK282.out 1).trans rfl
    have hfz61_0 := blk_frozen BK282.out 0
    have hfz61_1 := blk_frozen BK282.out 1
    go_wp2
    refine bodyPost_ret (results_ct rfl _ _ gb282 29 #[.string (⟨#[]⟩ : ByteArray), .string (⟨#[]⟩ : ByteArray)] (0, 0) _ rfl (by (with_reducible repeat (refine blk_drew ?_)); refine blk_put (cs := #[.string (⟨#[]⟩ : ByteArray), .string (⟨#[]⟩ : ByteArray)]) ?_ 1 _ rfl; (with_reducible repeat (refine blk_drew ?_)); refine blk_put (cs := #[.string (⟨#[]⟩ : ByteArray), .string (⟨#[]⟩ : ByteArray)]) ?_ 0 _ rfl; (with_reducible repeat (refine blk_drew ?_)); exact BK282.out) Tryd.underlying29 rfl (by kernel_rfl)) rfl ?_
    exact ⟨by rfl, by repeat ((with_reducible first | exact HB.out | refine below_set ?_ GE282.out))⟩
   ·replace c59 := Bool.eq_false_iff.mpr c59
    subst c59
    have H1 : (if a0_1.toList = ([] : List UInt8) then (if a0_2.toList = ([] : List UInt8) then (r21_Span.j1 kj2 false a0_0 a0_1 a0_2 l0_3) else ((r20_Object.f kj2 a0_2).bind fun t285 => (r21_Span.j1 kj2 (t285 != 0) a0_0 a0_1 a0_2 l0_3))) else ((r20_Bucket.f kj2 a0_1).bind fun t286 => (if t286 = 0 then (if a0_2.toList = ([] : List UInt8) then (r21_Span.j1 kj2 false a0_0 a0_1 a0_2 l0_3) else ((r20_Object.f kj2 a0_2).bind fun t287 => (r21_Span.j1 kj2 (t287 != 0) a0_0 a0_1 a0_2 l0_3))) else (r21_Span.j1 kj2 true a0_0 a0_1 a0_2 l0_3)))) = some (r1, r2, r3) := by rw [if_neg (show ¬ (false = true) by decide)] at H; exact H
    clear H
    have H := H1
    clear H1
    have HC62 := Aside0.mk H
    clear H
    go_upto_region 4 with (fail)
    go_cut [74] (fun v74 wc => ∃ (kq : Nat) (x74_61 : Bool), v74 = .bool x74_61 ∧ Aside0 (r21_Span.j1 kq x74_61 a0_0 a0_1 a0_2 l0_3 = some (r1, r2, r3)) ∧ Aside0 (kq ≤ kj2) ∧ Aside0 (wc.heap[gb281]? = some (.cells #[.int .i64 a0_0, .string a0_1, .string a0_2, (.slice A0_3 l0_3.length c0_3)] 25 (0, 0))) ∧ Aside0 (wc.heap[gb282]? = some (.cells #[.string (⟨#[]⟩ : ByteArray), .string (⟨#[]⟩ : ByteArray)] 29 (0, 0))) ∧ Aside0 (Below w.heap.size w wc))
    case first =>
     have H := HC62.out
     clear HC62
     by_cases c63 : a0_1.toList = ([] : List UInt8)
     ·rw [if_pos c63] at H
      have c63b0 : (a0_1.toList == ([] : List UInt8)) = true := beq_iff_eq.mpr c63
      have c63b1 : (a0_1.toList != ([] : List UInt8)) = false := bne_eq_false_iff_eq.mpr c63
      clear c63
      (skip)
      by_cases c64 : a0_2.toList = ([] : List UInt8)
      ·rw [if_pos c64] at H
       have c64b0 : (a0_2.toList == ([] : List UInt8)) = true := beq_iff_eq.mpr c64
       have c64b1 : (a0_2.toList != ([] : List UInt8)) = false := bne_eq_false_iff_eq.mpr c64
       clear c64
       have H' := Aside0.mk H
       clear H
       have hnb65 := NB281_282.out
       have hnc65 := NB282_281.out
       have hcz66_0 : wc.cell? ⟨gb281, 0, none⟩ = some (.int .i64 a0_0) := (blk_cell BK281.out 0).trans rfl
       have hcz66_1 : wc.cell? ⟨gb281, 1, none⟩ = some (.string a0_1) := (blk_cell BK281.out 1).trans rfl
       have hcz66_2 : wc.cell? ⟨gb281, 2, none⟩ = some (.string a0_2) := (blk_cell BK281.out 2).trans rfl
       have hcz66_3 : wc.cell? ⟨gb281, 3, none⟩ = some (.slice A0_3 l0_3.length c0_3) := (blk_cell BK281.out 3).trans rfl
       have hfz66_0 := blk_frozen BK281.out 0
       have hfz66_1 := blk_frozen BK281.out 1
       have hfz66_2 := blk_frozen BK281.out 2
       have hfz66_3 := blk_frozen BK281.out 3
       go_wp2
       go_meet
       case rel => exact ⟨_, (false), (by rfl), H', ⟨by have := HJ2.out; omega⟩, ⟨by (with_reducible repeat (refine blk_drew ?_)); exact BK281.out⟩, ⟨by (with_reducible repeat (refine blk_drew ?_)); exact BK282.out⟩, ⟨by repeat ((with_reducible exact HB.out))⟩⟩
      ·rw [if_neg c64] at H
       have c64b0 : (a0_2.toList == ([] : List UInt8)) = false := beq_eq_false_iff_ne.mpr c64
       have c64b1 : (a0_2.toList != ([] : List UInt8)) = true := bne_iff_ne.mpr c64
       replace H := Option.bind_eq_some_iff.mp H
       obtain ⟨t285, A670, H⟩ := H
       replace H : (r21_Span.j1 kj2 (t285 != 0) a0_0 a0_1 a0_2 l0_3) = some (r1, r2, r3) := H
       have A67 := Aside0.mk A670
       clear A670
       have H' := Aside0.mk H
       clear H
       have hnb68 := NB281_282.out
       have hnc68 := NB282_281.out
       have hcz69_0 : wc.cell? ⟨gb281, 0, none⟩ = some (.int .i64 a0_0) := (blk_cell BK281.out 0).trans rfl
       have hcz69_1 : wc.cell? ⟨gb281, 1, none⟩ = some (.string a0_1) := (blk_cell BK281.out 1).trans rfl
       have hcz69_2 : wc.cell? ⟨gb281, 2, none⟩ = some (.string a0_2) := (blk_cell BK281.out 2).trans rfl
       have hcz69_3 : wc.cell? ⟨gb281, 3, none⟩ = some (.slice A0_3 l0_3.length c0_3) := (blk_cell BK281.out 3).trans rfl
       have hfz69_0 := blk_frozen BK281.out 0
       have hfz69_1 := blk_frozen BK281.out 1
       have hfz69_2 := blk_frozen BK281.out 2
       have hfz69_3 := blk_frozen BK281.out 3
       go_wp2_with ((go_at_call 49; (with_reducible refine (r20_Object.calls kj2 a0_2 t285 _ A67.out).mono ?_); rintro e w' ⟨rfl, ⟨nd, rfl⟩⟩))
       go_meet
       case rel => exact ⟨_, ((t285 != 0)), (by rfl), H', ⟨by have := HJ2.out; omega⟩, ⟨by (with_reducible repeat (refine blk_drewN ?_ _)); exact BK281.out⟩, ⟨by (with_reducible repeat (refine blk_drewN ?_ _)); exact BK282.out⟩, ⟨by repeat ((with_reducible first | exact HB.out | apply pw_below_drewN))⟩⟩
     ·rw [if_neg c63] at H
      have c63b0 : (a0_1.toList == ([] : List UInt8)) = false := beq_eq_false_iff_ne.mpr c63
      have c63b1 : (a0_1.toList != ([] : List UInt8)) = true := bne_iff_ne.mpr c63
      (skip)
      replace H := Option.bind_eq_some_iff.mp H
      obtain ⟨t286, A700, H⟩ := H
      replace H : (if t286 = 0 then (if a0_2.toList = ([] : List UInt8) then (r21_Span.j1 kj2 false a0_0 a0_1 a0_2 l0_3) else ((r20_Object.f kj2 a0_2).bind fun t287 => (r21_Span.j1 kj2 (t287 != 0) a0_0 a0_1 a0_2 l0_3))) else (r21_Span.j1 kj2 true a0_0 a0_1 a0_2 l0_3)) = some (r1, r2, r3) := H
      have A70 := Aside0.mk A700
      clear A700
      by_cases c71 : t286 = 0
      ·rw [if_pos c71] at H
       have c71b0 : (t286 == 0) = true := beq_iff_eq.mpr c71
       have c71b1 : (t286 != 0) = false := bne_eq_false_iff_eq.mpr c71
       clear c71
       by_cases c72 : a0_2.toList = ([] : List UInt8)
       ·rw [if_pos c72] at H
        have c72b0 : (a0_2.toList == ([] : List UInt8)) = true := beq_iff_eq.mpr c72
        have c72b1 : (a0_2.toList != ([] : List UInt8)) = false := bne_eq_false_iff_eq.mpr c72
        clear c72
        have H' := Aside0.mk H
        clear H
        have hnb73 := NB281_282.out
        have hnc73 := NB282_281.out
        have hcz74_0 : wc.cell? ⟨gb281, 0, none⟩ = some (.int .i64 a0_0) := (blk_cell BK281.out 0).trans rfl
        have hcz74_1 : wc.cell? ⟨gb281, 1, none⟩ = some (.string a0_1) := (blk_cell BK281.out 1).trans rfl
        have hcz74_2 : wc.cell? ⟨gb281, 2, none⟩ = some (.string a0_2) := (blk_cell BK281.out 2).trans rfl
        have hcz74_3 : wc.cell? ⟨gb281, 3, none⟩ = some (.slice A0_3 l0_3.length c0_3) := (blk_cell BK281.out 3).trans rfl
        have hfz74_0 := blk_frozen BK281.out 0
        have hfz74_1 := blk_frozen BK281.out 1
        have hfz74_2 := blk_frozen BK281.out 2
        have hfz74_3 := blk_frozen BK281.out 3
        go_wp2_with ((go_at_call 48; (with_reducible refine (r20_Bucket.calls kj2 a0_1 t286 _ A70.out).mono ?_); rintro e w' ⟨rfl, ⟨nd, rfl⟩⟩))
        go_meet
        case rel => exact ⟨_, (false), (by rfl), H', ⟨by have := HJ2.out; omega⟩, ⟨by (with_reducible repeat (refine blk_drewN ?_ _)); exact BK281.out⟩, ⟨by (with_reducible repeat (refine blk_drewN ?_ _)); exact BK282.out⟩, ⟨by repeat ((with_reducible first | exact HB.out | apply pw_below_drewN))⟩⟩
       ·rw [if_neg c72] at H
        have c72b0 : (a0_2.toList == ([] : List UInt8)) = false := beq_eq_false_iff_ne.mpr c72
        have c72b1 : (a0_2.toList != ([] : List UInt8)) = true := bne_iff_ne.mpr c72
        replace H := Option.bind_eq_some_iff.mp H
        obtain ⟨t287, A750, H⟩ := H
        replace H : (r21_Span.j1 kj2 (t287 != 0) a0_0 a0_1 a0_2 l0_3) = some (r1, r2, r3) := H
        have A75 := Aside0.mk A750
        clear A750
        have H' := Aside0.mk H
        clear H
        have hnb76 := NB281_282.out
        have hnc76 := NB282_281.out
        have hcz77_0 : wc.cell? ⟨gb281, 0, none⟩ = some (.int .i64 a0_0) := (blk_cell BK281.out 0).trans rfl
        have hcz77_1 : wc.cell? ⟨gb281, 1, none⟩ = some (.string a0_1) := (blk_cell BK281.out 1).trans rfl
        have hcz77_2 : wc.cell? ⟨gb281, 2, none⟩ = some (.string a0_2) := (blk_cell BK281.out 2).trans rfl
        have hcz77_3 : wc.cell? ⟨gb281, 3, none⟩ = some (.slice A0_3 l0_3.length c0_3) := (blk_cell BK281.out 3).trans rfl
        have hfz77_0 := blk_frozen BK281.out 0
        have hfz77_1 := blk_frozen BK281.out 1
        have hfz77_2 := blk_frozen BK281.out 2
        have hfz77_3 := blk_frozen BK281.out 3
        go_wp2_with (first | (go_at_call 48; (with_reducible refine (r20_Bucket.calls kj2 a0_1 t286 _ A70.out).mono ?_); rintro e w' ⟨rfl, ⟨nd, rfl⟩⟩) | (go_at_call 49; (with_reducible refine (r20_Object.calls kj2 a0_2 t287 _ A75.out).mono ?_); rintro e w' ⟨rfl, ⟨nd, rfl⟩⟩))
        go_meet
        case rel => exact ⟨_, ((t287 != 0)), (by rfl), H', ⟨by have := HJ2.out; omega⟩, ⟨by (with_reducible repeat (refine blk_drewN ?_ _)); exact BK281.out⟩, ⟨by (with_reducible repeat (refine blk_drewN ?_ _)); exact BK282.out⟩, ⟨by repeat ((with_reducible first | exact HB.out | apply pw_below_drewN))⟩⟩
      ·rw [if_neg c71] at H
       have c71b0 : (t286 == 0) = false := beq_eq_false_iff_ne.mpr c71
       have c71b1 : (t286 != 0) = true := bne_iff_ne.mpr c71
       have H' := Aside0.mk H
       clear H
       have hnb78 := NB281_282.out
       have hnc78 := NB282_281.out
       have hcz79_0 : wc.cell? ⟨gb281, 0, none⟩ = some (.int .i64 a0_0) := (blk_cell BK281.out 0).trans rfl
       have hcz79_1 : wc.cell? ⟨gb281, 1, none⟩ = some (.string a0_1) := (blk_cell BK281.out 1).trans rfl
       have hcz79_2 : wc.cell? ⟨gb281, 2, none⟩ = some (.string a0_2) := (blk_cell BK281.out 2).trans rfl
       have hcz79_3 : wc.cell? ⟨gb281, 3, none⟩ = some (.slice A0_3 l0_3.length c0_3) := (blk_cell BK281.out 3).trans rfl
       have hfz79_0 := blk_frozen BK281.out 0
       have hfz79_1 := blk_frozen BK281.out 1
       have hfz79_2 := blk_frozen BK281.out 2
       have hfz79_3 := blk_frozen BK281.out 3
       go_wp2_with ((go_at_call 48; (with_reducible refine (r20_Bucket.calls kj2 a0_1 t286 _ A70.out).mono ?_); rintro e w' ⟨rfl, ⟨nd, rfl⟩⟩))
       go_meet
       case rel => exact ⟨_, (true), (by rfl), H', ⟨by have := HJ2.out; omega⟩, ⟨by (with_reducible repeat (refine blk_drewN ?_ _)); exact BK281.out⟩, ⟨by (with_reducible repeat (refine blk_drewN ?_ _)); exact BK282.out⟩, ⟨by repeat ((with_reducible first | exact HB.out | apply pw_below_drewN))⟩⟩
    case rest =>
     clear HC62
     try clear c1
     try clear c2
     try clear p2
     try clear c3
     try clear c4
     try clear c5
     try clear c6
     try clear c7
     try clear c9
     try clear c9b0
     try clear c11
     try clear c12
     try clear c12b0
     try clear c12b1
     try clear c13
     try clear c13b0
     try clear c13b1
     try clear c14
     try clear c14b0
     try clear c14b1
     try clear c15
     try clear c15b0
     try clear c15b1
     try clear c16
     try clear c20
     try clear c22
     try clear c24
     try clear c28
     try clear c32
     try clear c32b0
     try clear c32b1
     try clear c33
     try clear c33b0
     try clear c33b1
     try clear c34
     try clear c34b0
     try clear c34b1
     try clear c35
     try clear c39
     try clear c43
     try clear c46
     try clear c47
     try clear c47b0
     try clear c47b1
     try clear c48
     try clear c52
     try clear c56
     try clear c59
     try clear c60
     try clear c63
     try clear c63b0
     try clear c63b1
     try clear c64
     try clear c64b0
     try clear c64b1
     try clear c65
     try clear c68
     try clear c71
     try clear c71b0
     try clear c71b1
     try clear c72
     try clear c72b0
     try clear c72b1
     try clear c73
     try clear c76
     try clear c78
     try clear hcz17_0
     try clear hcz17_1
     try clear hcz17_2
     try clear hcz17_3
     try clear hcz19_0
     try clear hcz19_1
     try clear hcz19_2
     try clear hcz19_3
     try clear hcz21_0
     try clear hcz21_1
     try clear hcz21_2
     try clear hcz21_3
     try clear hcz23_0
     try clear hcz23_1
     try clear hcz23_2
     try clear hcz23_3
     try clear hcz25_0
     try clear hcz25_1
     try clear hcz25_2
     try clear hcz25_3
     try clear hcz27_0
     try clear hcz27_1
     try clear hcz27_2
     try clear hcz27_3
     try clear hcz29_0
     try clear hcz29_1
     try clear hcz29_2
     try clear hcz29_3
     try clear hcz31_0
     try clear hcz31_1
     try clear hcz31_2
     try clear hcz31_3
     try clear hcz36_0
     try clear hcz36_1
     try clear hcz36_2
     try clear hcz36_3
     try clear hcz38_0
     try clear hcz38_1
     try clear hcz38_2
     try clear hcz38_3
     try clear hcz40_0
     try clear hcz40_1
     try clear hcz40_2
     try clear hcz40_3
     try clear hcz42_0
     try clear hcz42_1
     try clear hcz42_2
     try clear hcz42_3
     try clear hcz44_0
     try clear hcz44_1
     try clear hcz44_2
     try clear hcz44_3
     try clear hcz46_0
     try clear hcz46_1
     try clear hcz46_2
     try clear hcz46_3
     try clear hcz49_0
     try clear hcz49_1
     try clear hcz49_2
     try clear hcz49_3
     try clear hcz51_0
     try clear hcz51_1
     try clear hcz51_2
     try clear hcz51_3
     try clear hcz53_0
     try clear hcz53_1
     try clear hcz53_2
     try clear hcz53_3
     try clear hcz55_0
     try clear hcz55_1
     try clear hcz55_2
     try clear hcz55_3
     try clear hcz57_0
     try clear hcz57_1
     try clear hcz57_2
     try clear hcz57_3
     try clear hcz61_0
     try clear hcz61_1
     try clear hcz66_0
     try clear hcz66_1
     try clear hcz66_2
     try clear hcz66_3
     try clear hcz69_0
     try clear hcz69_1
     try clear hcz69_2
     try clear hcz69_3
     try clear hcz74_0
     try clear hcz74_1
     try clear hcz74_2
     try clear hcz74_3
     try clear hcz77_0
     try clear hcz77_1
     try clear hcz77_2
     try clear hcz77_3
     try clear hcz79_0
     try clear hcz79_1
     try clear hcz79_2
     try clear hcz79_3
     try clear hcz7_0
     try clear hcz7_1
     try clear hcz7_2
     try clear hcz7_3
     try clear hfz17_0
     try clear hfz17_1
     try clear hfz17_2
     try clear hfz17_3
     try clear hfz19_0
     try clear hfz19_1
     try clear hfz19_2
     try clear hfz19_3
     try clear hfz21_0
     try clear hfz21_1
     try clear hfz21_2
     try clear hfz21_3
     try clear hfz23_0
     try clear hfz23_1
     try clear hfz23_2
     try clear hfz23_3
     try clear hfz25_0
     try clear hfz25_1
     try clear hfz25_2
     try clear hfz25_3
     try clear hfz27_0
     try clear hfz27_1
     try clear hfz27_2
     try clear hfz27_3
     try clear hfz29_0
     try clear hfz29_1
     try clear hfz29_2
     try clear hfz29_3
     try clear hfz31_0
     try clear hfz31_1
     try clear hfz31_2
     try clear hfz31_3
     try clear hfz36_0
     try clear hfz36_1
     try clear hfz36_2
     try clear hfz36_3
     try clear hfz38_0
     try clear hfz38_1
     try clear hfz38_2
     try clear hfz38_3
     try clear hfz40_0
     try clear hfz40_1
     try clear hfz40_2
     try clear hfz40_3
     try clear hfz42_0
     try clear hfz42_1
     try clear hfz42_2
     try clear hfz42_3
     try clear hfz44_0
     try clear hfz44_1
     try clear hfz44_2
     try clear hfz44_3
     try clear hfz46_0
     try clear hfz46_1
     try clear hfz46_2
     try clear hfz46_3
     try clear hfz49_0
     try clear hfz49_1
     try clear hfz49_2
     try clear hfz49_3
     try clear hfz51_0
     try clear hfz51_1
     try clear hfz51_2
     try clear hfz51_3
     try clear hfz53_0
     try clear hfz53_1
     try clear hfz53_2
     try clear hfz53_3
     try clear hfz55_0
     try clear hfz55_1
     try clear hfz55_2
     try clear hfz55_3
     try clear hfz57_0
     try clear hfz57_1
     try clear hfz57_2
     try clear hfz57_3
     try clear hfz61_0
     try clear hfz61_1
     try clear hfz66_0
     try clear hfz66_1
     try clear hfz66_2
     try clear hfz66_3
     try clear hfz69_0
     try clear hfz69_1
     try clear hfz69_2
     try clear hfz69_3
     try clear hfz74_0
     try clear hfz74_1
     try clear hfz74_2
     try clear hfz74_3
     try clear hfz77_0
     try clear hfz77_1
     try clear hfz77_2
     try clear hfz77_3
     try clear hfz79_0
     try clear hfz79_1
     try clear hfz79_2
     try clear hfz79_3
     try clear hfz7_0
     try clear hfz7_1
     try clear hfz7_2
     try clear hfz7_3
     try clear p2
     obtain ⟨kq, x74_61, rfl, HA, HJ61, BK281, BK282, HB⟩ := hcut
     cases kq with
     | zero => exact absurd HA.out (by simp [r21_Span.j1])
     | succ kj61 =>
      have H := HA.out
      clear HA
      simp only [r21_Span.j1] at H
      by_cases c80 : x74_61 = true
      ·subst c80
       have H1 : (some ((⟨#[]⟩ : ByteArray), (⟨#[]⟩ : ByteArray), 15)) = some (r1, r2, r3) := by rw [if_pos rfl] at H; exact H
       clear H
       have H := H1
       clear H1
       simp only [Option.some.injEq, Prod.mk.injEq] at H
       obtain ⟨rfl, rfl, rfl⟩ := H
       have hnb81 := NB282_281.out
       have hnc81 := NB281_282.out
       have hcz82_0 : wc.cell? ⟨gb282, 0, none⟩ = some (.string (⟨#[]⟩ : ByteArray)) := (blk_cell BK282.out 0).trans rfl
       have hcz82_1 : wc.cell? ⟨gb282, 1, none⟩ = some (.string (⟨#[]⟩ : ByteArray)) := (blk_cell BK282.out 1).trans rfl
       have hfz82_0 := blk_frozen BK282.out 0
       have hfz82_1 := blk_frozen BK282.out 1
       go_wp2
       refine bodyPost_ret (results_ct rfl _ _ gb282 29 #[.string (⟨#[]⟩ : ByteArray), .string (⟨#[]⟩ : ByteArray)] (0, 0) _ rfl (by (with_reducible repeat (refine blk_drew ?_)); refine blk_put (cs := #[.string (⟨#[]⟩ : ByteArray), .string (⟨#[]⟩ : ByteArray)]) ?_ 1 _ rfl; (with_reducible repeat (refine blk_drew ?_)); refine blk_put (cs := #[.string (⟨#[]⟩ : ByteArray), .string (⟨#[]⟩ : ByteArray)]) ?_ 0 _ rfl; (with_reducible repeat (refine blk_drew ?_)); exact BK282.out) Tryd.underlying29 rfl (by kernel_rfl)) rfl ?_
       exact ⟨by rfl, by repeat ((with_reducible first | exact HB.out | refine below_set ?_ GE282.out))⟩
      ·replace c80 := Bool.eq_false_iff.mpr c80
       subst c80
       have H1 : ((r21_parts.f kj61 a0_0 a0_1 a0_2 l0_3).bind fun t288 => ((r21_bytes.f kj61 t288).bind fun t291 => (if t291.size + 1 ≤ 9223372036854775807 then (some (t291, t291 ++ (⟨#[255]⟩ : ByteArray), 0)) else (none)))) = some (r1, r2, r3) := by rw [if_neg (show ¬ (false = true) by decide)] at H; exact H
       clear H
       have H := H1
       clear H1
       replace H := Option.bind_eq_some_iff.mp H
       obtain ⟨t288, A830, H⟩ := H
       replace H : ((r21_bytes.f kj61 t288).bind fun t291 => (if t291.size + 1 ≤ 9223372036854775807 then (some (t291, t291 ++ (⟨#[255]⟩ : ByteArray), 0)) else (none))) = some (r1, r2, r3) := H
       have A83 := Aside0.mk A830
       clear A830
       replace H := Option.bind_eq_some_iff.mp H
       obtain ⟨t291, A840, H⟩ := H
       replace H : (if t291.size + 1 ≤ 9223372036854775807 then (some (t291, t291 ++ (⟨#[255]⟩ : ByteArray), 0)) else (none)) = some (r1, r2, r3) := H
       have A84 := Aside0.mk A840
       clear A840
       by_cases c85 : t291.size + 1 ≤ 9223372036854775807
       ·rw [if_pos c85] at H
        have c85b0 := eq_true c85
        have c85b1 : decide (t291.size + 1 ≤ 9223372036854775807) = true := decide_eq_true c85
        try have c85b2 : (9223372036854775807 < t291.size + 1) = False := eq_false (Nat.not_lt.2 c85)
        simp only [Option.some.injEq, Prod.mk.injEq] at H
        obtain ⟨rfl, rfl, rfl⟩ := H
        have hnb86 := NB281_282.out
        have hnc86 := NB282_281.out
        have hcz87_0 : wc.cell? ⟨gb281, 0, none⟩ = some (.int .i64 a0_0) := (blk_cell BK281.out 0).trans rfl
        have hcz87_1 : wc.cell? ⟨gb281, 1, none⟩ = some (.string a0_1) := (blk_cell BK281.out 1).trans rfl
        have hcz87_2 : wc.cell? ⟨gb281, 2, none⟩ = some (.string a0_2) := (blk_cell BK281.out 2).trans rfl
        have hcz87_3 : wc.cell? ⟨gb281, 3, none⟩ = some (.slice A0_3 l0_3.length c0_3) := (blk_cell BK281.out 3).trans rfl
        have hfz87_0 := blk_frozen BK281.out 0
        have hfz87_1 := blk_frozen BK281.out 1
        have hfz87_2 := blk_frozen BK281.out 2
        have hfz87_3 := blk_frozen BK281.out 3
        go_wp2_with (first | ((with_reducible refine gate_callee (f := 51) rfl ?_); refine goesL_ (some 77) rfl rfl Tryd.func51 (by kernel_rfl) rfl #[.agg #[.int .i64 a0_0, .string a0_1, .string a0_2, .slice A0_3 l0_3.length c0_3]] rfl (by (try simp only [List.map_toArray, List.map_cons, List.map_nil]); rfl) ?_; (with_reducible refine (r21_parts.calls kj61 a0_0 a0_1 a0_2 _ _ l0_3 t288 _ ?side1 ?side2 A83.out).mono ?_); (case side1 => repeat (exact (Kd.C_below HR0_3.out HB.out))); (case side2 => exact HC0_3.out); rintro e w88 ⟨v289, rfl, ho0, hb⟩; refine ⟨_, rfl, ?_⟩; have n0_ := Aside0.mk (Kd.R_lower ho0 (below_size (by repeat ((with_reducible exact HB.out))))); have n1_ := Aside0.mk (blk_below (g := gb281) (o := .cells #[.int .i64 a0_0, .string a0_1, .string a0_2, .slice A0_3 l0_3.length c0_3] 25 (0, 0)) (by (with_reducible repeat (refine blk_drew ?_)); exact BK281.out) hb); have n2_ := Aside0.mk (blk_below (g := gb282) (o := .cells #[.string (⟨#[]⟩ : ByteArray), .string (⟨#[]⟩ : ByteArray)] 29 (0, 0)) (by (with_reducible repeat (refine blk_drew ?_)); exact BK282.out) hb); have n3_ := Aside0.mk (below_step (by repeat ((with_reducible exact HB.out))) hb); clear BK281; clear BK282; clear HB; have HO290 := n0_; have BK281 := n1_; have BK282 := n2_; have HB := n3_; clear n0_ n1_ n2_ n3_; (try clear hb); (try clear hb2); (try clear hk); (try clear hi); (try clear ho0); obtain ⟨Ao89, co89, eo89⟩ := Kd.R_slice HO290.out; subst eo89) | ((with_reducible refine gate_callee (f := 50) rfl ?_); refine goesL_ (some 78) rfl rfl Tryd.func50 (by kernel_rfl) rfl #[.slice Ao89 t288.length co89] rfl (by (try simp only [List.map_toArray, List.map_cons, List.map_nil]); rfl) ?_; (with_reducible refine (r21_bytes.calls kj61 _ _ t288 t291 _ ?side1 ?side2 A84.out).mono ?_); (case side1 => repeat (exact (Kd.R_reads' HO290.out).2.2)); (case side2 => exact (Kd.R_reads' HO290.out).2.1); rintro e w90 ⟨rfl, hb⟩; refine ⟨_, rfl, ?_⟩; have n0_ := Aside0.mk (Kd.R_below (by (with_reducible repeat (apply Kd.R_drew)); exact HO290.out) hb); have n1_ := Aside0.mk (blk_below (g := gb281) (o := .cells #[.int .i64 a0_0, .string a0_1, .string a0_2, .slice A0_3 l0_3.length c0_3] 25 (0, 0)) (by (with_reducible repeat (refine blk_drew ?_)); exact BK281.out) hb); have n2_ := Aside0.mk (blk_below (g := gb282) (o := .cells #[.string (⟨#[]⟩ : ByteArray), .string (⟨#[]⟩ : ByteArray)] 29 (0, 0)) (by (with_reducible repeat (refine blk_drew ?_)); exact BK282.out) hb); have n3_ := Aside0.mk (below_step (by repeat ((with_reducible exact HB.out))) hb); clear HO290; clear BK281; clear BK282; clear HB; have HO290 := n0_; have BK281 := n1_; have BK282 := n2_; have HB := n3_; clear n0_ n1_ n2_ n3_; (try clear hb); (try clear hb2); (try clear hk); (try clear hi); have hcz91_0 : w90.cell? ⟨gb282, 0, none⟩ = some (.string (⟨#[]⟩ : ByteArray)) := (blk_cell BK282.out 0).trans rfl; have hcz91_1 : w90.cell? ⟨gb282, 1, none⟩ = some (.string (⟨#[]⟩ : ByteArray)) := (blk_cell BK282.out 1).trans rfl; have hfz91_0 := blk_frozen BK282.out 0; have hfz91_1 := blk_frozen BK282.out 1))
        refine bodyPost_ret (results_ct rfl _ _ gb282 29 #[.string t291, .string (t291 ++ (⟨#[255]⟩ : ByteArray))] (0, 0) _ rfl (by (with_reducible repeat (refine blk_drew ?_)); refine blk_put (cs := #[.string t291, .string (⟨#[]⟩ : ByteArray)]) ?_ 1 _ rfl; (with_reducible repeat (refine blk_drew ?_)); refine blk_put (cs := #[.string (⟨#[]⟩ : ByteArray), .string (⟨#[]⟩ : ByteArray)]) ?_ 0 _ rfl; (with_reducible repeat (refine blk_drew ?_)); exact BK282.out) Tryd.underlying29 rfl (by kernel_rfl)) rfl ?_
        exact ⟨by rfl, by repeat ((with_reducible first | exact HB.out | refine below_set ?_ GE282.out))⟩
       ·rw [if_neg c85] at H
        exact absurd H (by simp)

end Go.Proofs.YtbdfmjgndeigpaaDoor.P
