-- by xprint (this session's program over the kit's printer)
import Derived.Test.YtbdfmjgndeigpaaDoorPx0
import Derived.Test.YtbdfmjgndeigpaaDoorPx5
import Derived.Outline
import Derived.WalkSpells
import Derived.Shelf.Strings.Search1
namespace Go.Proofs.YtbdfmjgndeigpaaDoor.P
open Go.RowKit Go.Proofs.YtbdfmjgndeigpaaDoorW.PrintWords Go.Proofs.YtbdfmjgndeigpaaDoorW.PrintLast Go.Proofs.YtbdfmjgndeigpaaDoorW.PrintMore
attribute [local go_sem] max2_int min2_int max_two min_two max_three min_three max_four min_four   -- for this text's walks alone
set_option linter.unusedVariables false
set_option linter.unusedSimpArgs false

/-! ### tuple_putN: function 75 -/
def tuple_putN.f (k : Nat) (l0 : List Int) (a1_0 : Int) (a1_1 : Int) (a1_2 : ByteArray) : Option (List Int) := if a1_0 = 2 then (if l0.length < 140737488355328 then ((tuple_number.f k (l0 ++ [3]) a1_1 0).bind fun t115 => (some t115)) else (none)) else (if a1_0 = 3 then (if l0.length < 140737488355328 then ((tuple_number.f k (l0 ++ [4]) a1_1 255).bind fun t121 => (some t121)) else (none)) else (if l0.length < 140737488355328 then (none) else (none)))
theorem tuple_putN.mono : ∀ a0 a1 a2 a3 k, LeO (tuple_putN.f k a0 a1 a2 a3) (tuple_putN.f (k + 1) a0 a1 a2 a3) := by
 intro a0 a1 a2 a3 k
 unfold tuple_putN.f
 repeat' first
   | (with_reducible exact tuple_number.mono _ _ _ _)
   | (with_reducible exact LeO.refl _)
   | (with_reducible exact LeO.none _)
   | (with_reducible refine LeO.ite ?_ ?_)
   | (with_reducible refine LeO.bind ?_ (fun _ => ?_))
   | exact tuple_number.mono _ _ _ _
   | exact LeO.none _
   | refine LeO.ite ?_ ?_
   | refine LeO.bind ?_ (fun _ => ?_)
set_option maxHeartbeats 8000000 in
set_option maxRecDepth 100000 in
theorem tuple_putN.calls (k : Nat) (P0_ : Nat → Prop) (u9000_ : Value) (l0 : List Int) (a1_0 : Int) (a1_1 : Int) (a1_2 : ByteArray) (r : List Int) (w0 w : World) (hB : Below w0.heap.size w0 w) (ho0 : Kd.R (Kd.int .u8) 5 w w0.heap.size P0_ u9000_ l0) (h : tuple_putN.f k l0 a1_0 a1_1 a1_2 = some r) :
  Calls Tryd.prog 75 #[u9000_, .agg #[.int .i64 a1_0, .int .i64 a1_1, .string a1_2]] w fun e w' => ∃ v0_ : Value, e = .returned (v0_) ∧ Kd.R (Kd.int .u8) 5 w' w0.heap.size (fun k_ => (P0_ k_ ∨ w.heap.size ≤ k_)) v0_ r ∧ Below w0.heap.size w0 w' ∧ Kept w w' (fun k_ => P0_ k_) := by
 have hu91 := Tryd.underlying91
 have HO0 := Aside0.mk (show Kd.R (Kd.int .u8) 5 w w0.heap.size (fun k_ => (P0_ k_ ∨ w.heap.size ≤ k_)) u9000_ l0 from Kd.R_mono ho0 (fun k_ hk => (.inl hk)))
 have HK := Aside0.mk (Kept.refl w (fun k_ => P0_ k_))
 have HW0 := Aside0.mk hB.size
 have HB := Aside0.mk hB
 clear hB
 have H : (if a1_0 = 2 then (if l0.length < 140737488355328 then ((tuple_number.f k (l0 ++ [3]) a1_1 0).bind fun t115 => (some t115)) else (none)) else (if a1_0 = 3 then (if l0.length < 140737488355328 then ((tuple_number.f k (l0 ++ [4]) a1_1 255).bind fun t121 => (some t121)) else (none)) else (if l0.length < 140737488355328 then (none) else (none)))) = some r := h
 clear h
 by_cases c3 : a1_0 = 2
 ·rw [if_pos c3] at H
  have c3b0 : (a1_0 == 2) = true := beq_iff_eq.mpr c3
  have c3b1 : (a1_0 != 2) = false := bne_eq_false_iff_eq.mpr c3
  clear c3
  by_cases c4 : l0.length < 140737488355328
  ·rw [if_pos c4] at H
   have LMc4 := Aside0.mk c4
   clear c4
   obtain ⟨y112, hy112⟩ : ∃ y_ : List Int, y_ = (l0 ++ [3]) := ⟨_, rfl⟩
   replace H : ((tuple_number.f k y112 a1_1 0).bind fun t115 => (some t115)) = some r := by (rw [hy112]; with_reducible exact H)
   have Ny112 := Aside0.mk hy112
   clear hy112
   replace H := Option.bind_eq_some_iff.mp H
   obtain ⟨t115, A50, H⟩ := H
   replace H : (some t115) = some r := H
   have A5 := Aside0.mk A50
   clear A50
   obtain rfl := Option.some.inj H
   go_enter Tryd.func75, Tryd.ntmps75
   try go_wp2_with (((with_reducible refine gate_dst (N := 3) rfl ?_); refine box_event ?hg (N := 3) ?hd (cs := #[.int .i64 a1_0, .int .i64 a1_1, .string a1_2]) (t := 91) ?hr ?_; (case hd => rfl); (case hg => rfl); (case hr => (go_simp; done)); intro gb111 hg w6 hbox hb; have n0_ := Aside0.mk (Kd.R_below (by (with_reducible repeat (apply Kd.R_drew)); exact HO0.out) hb); have n1_ := Aside0.mk (Kept.below (S := (fun k_ => P0_ k_)) (by repeat ((with_reducible exact HK.out))) hb); have n2_ := Aside0.mk (below_step (by repeat ((with_reducible exact HB.out))) hb); have n3_ := Aside0.mk (hbox); have n4_ := Aside0.mk ((by rw [hg]; exact (by exact HK.out.1) : w.heap.size ≤ gb111)); have n5_ := Aside0.mk ((by rw [hg]; exact (below_size (by repeat ((with_reducible exact HB.out)))) : w0.heap.size ≤ gb111)); clear HO0; clear HK; clear HB; have HO0 := n0_; have HK := n1_; have HB := n2_; have BK111 := n3_; have GW111 := n4_; have GE111 := n5_; clear n0_ n1_ n2_ n3_ n4_ n5_; clear hb hbox hg; have hcz7_0 : w6.cell? ⟨gb111, 0, none⟩ = some (.int .i64 a1_0) := (blk_cell BK111.out 0).trans rfl; have hcz7_1 : w6.cell? ⟨gb111, 1, none⟩ = some (.int .i64 a1_1) := (blk_cell BK111.out 1).trans rfl; have hcz7_2 : w6.cell? ⟨gb111, 2, none⟩ = some (.string a1_2) := (blk_cell BK111.out 2).trans rfl; have hfz7_0 := blk_frozen BK111.out 0; have hfz7_1 := blk_frozen BK111.out 1; have hfz7_2 := blk_frozen BK111.out 2))
   have n0_ := Aside0.mk (Kd.R_drew HO0.out)
   have n1_ := Aside0.mk (blk_drew BK111.out)
   have n2_ := Aside0.mk (Kept.drew HK.out)
   have n3_ := Aside0.mk (below_drew1 HB.out)
   clear HO0
   clear BK111
   clear HK
   clear HB
   have HO0 := n0_
   have BK111 := n1_
   have HK := n2_
   have HB := n3_
   clear n0_ n1_ n2_ n3_
   refine start_ (n := 7) (S := fun w' => w'.cell? ⟨gb111, 0, none⟩ = some (.int .i64 a1_0) ∧ w'.cell? ⟨gb111, 1, none⟩ = some (.int .i64 a1_1) ∧ w'.cell? ⟨gb111, 2, none⟩ = some (.string a1_2)) (ds := []) #[false, false, false, false, false, false, false] (by kernel_rfl) rfl rfl ⟨(blk_cell BK111.out 0).trans rfl, (blk_cell BK111.out 1).trans rfl, (blk_cell BK111.out 2).trans rfl⟩ (fun hHeld => ?_)
   generalize w6.drew = w8 at HO0 BK111 HK HB hHeld ⊢
   refine pure_ (i := 0) (N := some 11) (v := ?_) (a' := ?_) #[true, false, false, false, false, false, false] rfl rfl (by kernel_rfl) (fun _ _ _ h => h) (Or.inl ⟨by rfl, ?_⟩) ?_ ?_
   rotate_left
   ·intro w'
    go_simp
    with_reducible rfl
   rotate_left
   ·simp only [Act.put, List.setIfInBounds_toArray, List.set_cons_zero, List.set_cons_succ, i64_w, i32_w]
    rfl
   refine pure_ (i := 3) (N := some 14) (v := ?_) (a' := ?_) #[true, false, false, true, false, false, false] rfl rfl (by kernel_rfl) (fun _ _ _ h => h) (Or.inl ⟨by rfl, ?_⟩) ?_ ?_
   rotate_left
   ·intro w'
    go_simp
    with_reducible rfl
   rotate_left
   ·simp only [Act.put, List.setIfInBounds_toArray, List.set_cons_zero, List.set_cons_succ, i64_w, i32_w]
    rfl
   refine take_ (i := 4) (N := some 15) (v := ?_) (a' := ?_) #[true, false, false, true, true, false, false] rfl rfl (by kernel_rfl) (fun _ _ _ h => h) (Or.inl ⟨by rfl, ?_⟩) hHeld ?_ ?_
   rotate_left
   ·rintro w' ⟨s0, s1, s2⟩
    go_simp
    with_reducible rfl
   rotate_left
   ·simp only [Act.put, List.setIfInBounds_toArray, List.set_cons_zero, List.set_cons_succ, i64_w, i32_w]
    rfl
   refine one_ (i := 1) (N := some 12) #[true, true, false, true, true, false, false] rfl rfl (by kernel_rfl) (by decide) (fun K hK => ?_)
   refine value_ (w1 := ?_) (v := ?_) (by rfl) rfl ?_ ?_
   rotate_left 2
   ·go_simp
    constructor
    ·rfl
    ·rfl
   refine hK.out _ _ ⟨(blk_cell (blk_alloc BK111.out _) 0).trans rfl, (blk_cell (blk_alloc BK111.out _) 1).trans rfl, (blk_cell (blk_alloc BK111.out _) 2).trans rfl⟩ (fun hHeld => ?_)
   clear hK K
   refine norm_ (a' := ?_) ?_ ?_
   rotate_left
   ·show Act.put _ (some 12) _ = _
    simp only [Act.put, List.setIfInBounds_toArray, List.set_cons_zero, List.set_cons_succ, i64_w, i32_w]
    rfl
   refine one_ (i := 2) (N := some 13) #[true, true, true, true, true, false, false] rfl rfl (by kernel_rfl) (by decide) (fun K hK => ?_)
   refine Kd.R_append_step (Kd.int .u8) (w0 := w0) w0.heap.size (by rfl) (.tmp 11) (.tmp 12) 73 5 (.int .u8 0) 1 rfl Tryd.underlying73 info5 rfl (by decide) (by omega) u9000_ l0 3 [.int .u8 3] (fun k_ => (P0_ k_ ∨ w.heap.size ≤ k_)) (fun _ => False) rfl rfl ?aP (fun _ hk => hk.elim) ?aF ?aO ?aB ?aS ?aL ?_
   (case aP => exact rfl)
   (case aB => exact (by repeat ((with_reducible exact HB.out))))
   (case aF => exact (fun k_ hk => (.inr (Nat.le_trans (by exact HK.out.1) hk))))
   (case aO => exact (by (with_reducible repeat (apply Kd.R_drew)); exact HO0.out))
   (case aS => exact (below_size (by repeat ((with_reducible exact HB.out)))))
   (case aL => have := LMc4.out; omega)
   intro v113 w9 ho hb hg hat
   rw [← Ny112.out] at ho
   have n0_ := Aside0.mk (blk_grown (g := gb111) (o := .cells #[.int .i64 a1_0, .int .i64 a1_1, .string a1_2] 91 (0, 0)) (by (with_reducible repeat (refine blk_drew ?_)); exact BK111.out) hg (Kd.R_ne HO0.out BK111.out (by decide)))
   have n1_ := Aside0.mk (hb)
   have n2_ := Aside0.mk (Kept.of_grown (S := (fun k_ => P0_ k_)) hg (by repeat ((with_reducible exact HK.out))) (fun k_ e_ => (HO0.out.1 k_ e_)))
   have n3_ := Aside0.mk (ho)
   clear BK111
   clear HB
   clear HK
   clear HO0
   have BK111 := n0_
   have HB := n1_
   have HK := n2_
   have HO114 := n3_
   clear n0_ n1_ n2_ n3_
   clear ho hb hg hat
   obtain ⟨Ao10, co10, eo10⟩ := Kd.R_slice HO114.out
   (subst eo10)
   refine hK.out _ _ ⟨(blk_cell BK111.out 0).trans rfl, (blk_cell BK111.out 1).trans rfl, (blk_cell BK111.out 2).trans rfl⟩ (fun hHeld => ?_)
   clear hK K
   refine norm_ (a' := ?_) ?_ ?_
   rotate_left
   ·show Act.put _ (some 13) _ = _
    simp only [Act.put, List.setIfInBounds_toArray, List.set_cons_zero, List.set_cons_succ, i64_w, i32_w]
    rfl
   refine one_ (i := 5) (N := some 16) #[true, true, true, true, true, true, false] rfl rfl (by kernel_rfl) (by decide) (fun K hK => ?_)
   refine goes_ Tryd.func85 (by kernel_rfl) rfl #[.slice Ao10 y112.length co10, .int .i64 a1_1, .int .u8 0] (by rfl) rfl rfl (by (try simp only [List.map_toArray, List.map_cons, List.map_nil]); rfl) ?_
   with_reducible refine (tuple_number.calls k (fun k_ => some k_ = (.slice Ao10 y112.length co10 : Value).ownBlock) (.slice Ao10 y112.length co10) y112 a1_1 0 t115 w0 _ ?side1 ?side2 A5.out).mono ?_
   (case side1 => repeat ((with_reducible exact HB.out)))
   (case side2 => exact Kd.R_tight rfl HO114.out)
   rintro e w11 ⟨v116, rfl, ho0, hb, hkp⟩
   refine ⟨_, rfl, ?_⟩
   have n0_ := Aside0.mk (blk_kept (by (with_reducible repeat (refine blk_drew ?_)); exact BK111.out) hkp (fun hs_ => (fun e_ => (Kd.R_ne HO114.out BK111.out (by decide)) e_) hs_))
   have n1_ := Aside0.mk (Kd.R_mono (ok' := fun k_ => (P0_ k_ ∨ w.heap.size ≤ k_)) ho0 (fun k_ hk_ => Or.elim hk_ (fun hs_ => (HO114.out.1 k_ (hs_).symm)) (fun hn_ => (.inr (Nat.le_trans (by exact HK.out.1) hn_)))))
   have n2_ := Aside0.mk (Kept.then_ (S := (fun k_ => P0_ k_)) (by repeat ((with_reducible exact HK.out))) hkp (fun k_ hs_ => (fun e_ => (HO114.out.1 k_ e_.symm)) hs_))
   have n3_ := Aside0.mk (hb)
   clear BK111
   clear HK
   clear HB
   clear HO114
   have BK111 := n0_
   have HO117 := n1_
   have HK := n2_
   have HB := n3_
   clear n0_ n1_ n2_ n3_
   (try clear hb)
   (try clear hkp)
   (try clear ho0)
   refine hK.out _ _ ⟨(blk_cell BK111.out 0).trans rfl, (blk_cell BK111.out 1).trans rfl, (blk_cell BK111.out 2).trans rfl⟩ (fun hHeld => ?_)
   clear hK K
   refine norm_ (a' := ?_) ?_ ?_
   rotate_left
   ·show Act.put _ (some 16) _ = _
    simp only [Act.put, List.setIfInBounds_toArray, List.set_cons_zero, List.set_cons_succ, i64_w, i32_w]
    rfl
   refine pure_ (i := 6) (N := some 4) (v := ?_) (a' := ?_) #[true, true, true, true, true, true, true] rfl rfl (by kernel_rfl) (fun _ _ _ h => h) (Or.inl ⟨by rfl, ?_⟩) ?_ ?_
   rotate_left
   ·intro w'
    go_simp
    with_reducible rfl
   rotate_left
   ·simp only [Act.put, List.setIfInBounds_toArray, List.set_cons_zero, List.set_cons_succ, i64_w, i32_w]
    rfl
   refine done_ (by kernel_rfl) ?_
   try go_wp2
   go_ret
   exact ⟨_, by rfl, by (with_reducible repeat (apply Kd.R_drew)); exact HO117.out, by repeat ((with_reducible exact HB.out)), by repeat ((with_reducible exact HK.out))⟩
  ·rw [if_neg c4] at H
   exact absurd H (by simp)
 ·rw [if_neg c3] at H
  have c3b0 : (a1_0 == 2) = false := beq_eq_false_iff_ne.mpr c3
  have c3b1 : (a1_0 != 2) = true := bne_iff_ne.mpr c3
  by_cases c12 : a1_0 = 3
  ·rw [if_pos c12] at H
   have c12b0 : (a1_0 == 3) = true := beq_iff_eq.mpr c12
   have c12b1 : (a1_0 != 3) = false := bne_eq_false_iff_eq.mpr c12
   clear c12
   by_cases c13 : l0.length < 140737488355328
   ·rw [if_pos c13] at H
    have LMc13 := Aside0.mk c13
    clear c13
    obtain ⟨y118, hy118⟩ : ∃ y_ : List Int, y_ = (l0 ++ [4]) := ⟨_, rfl⟩
    replace H : ((tuple_number.f k y118 a1_1 255).bind fun t121 => (some t121)) = some r := by (rw [hy118]; with_reducible exact H)
    have Ny118 := Aside0.mk hy118
    clear hy118
    replace H := Option.bind_eq_some_iff.mp H
    obtain ⟨t121, A140, H⟩ := H
    replace H : (some t121) = some r := H
    have A14 := Aside0.mk A140
    clear A140
    obtain rfl := Option.some.inj H
    go_enter Tryd.func75, Tryd.ntmps75
    try go_wp2_with (((with_reducible refine gate_dst (N := 3) rfl ?_); refine box_event ?hg (N := 3) ?hd (cs := #[.int .i64 a1_0, .int .i64 a1_1, .string a1_2]) (t := 91) ?hr ?_; (case hd => rfl); (case hg => rfl); (case hr => (go_simp; done)); intro gb111 hg w15 hbox hb; have n0_ := Aside0.mk (Kd.R_below (by (with_reducible repeat (apply Kd.R_drew)); exact HO0.out) hb); have n1_ := Aside0.mk (Kept.below (S := (fun k_ => P0_ k_)) (by repeat ((with_reducible exact HK.out))) hb); have n2_ := Aside0.mk (below_step (by repeat ((with_reducible exact HB.out))) hb); have n3_ := Aside0.mk (hbox); have n4_ := Aside0.mk ((by rw [hg]; exact (by exact HK.out.1) : w.heap.size ≤ gb111)); have n5_ := Aside0.mk ((by rw [hg]; exact (below_size (by repeat ((with_reducible exact HB.out)))) : w0.heap.size ≤ gb111)); clear HO0; clear HK; clear HB; have HO0 := n0_; have HK := n1_; have HB := n2_; have BK111 := n3_; have GW111 := n4_; have GE111 := n5_; clear n0_ n1_ n2_ n3_ n4_ n5_; clear hb hbox hg; have hcz16_0 : w15.cell? ⟨gb111, 0, none⟩ = some (.int .i64 a1_0) := (blk_cell BK111.out 0).trans rfl; have hcz16_1 : w15.cell? ⟨gb111, 1, none⟩ = some (.int .i64 a1_1) := (blk_cell BK111.out 1).trans rfl; have hcz16_2 : w15.cell? ⟨gb111, 2, none⟩ = some (.string a1_2) := (blk_cell BK111.out 2).trans rfl; have hfz16_0 := blk_frozen BK111.out 0; have hfz16_1 := blk_frozen BK111.out 1; have hfz16_2 := blk_frozen BK111.out 2))
    have n0_ := Aside0.mk (Kd.R_drew HO0.out)
    have n1_ := Aside0.mk (blk_drew BK111.out)
    have n2_ := Aside0.mk (Kept.drew HK.out)
    have n3_ := Aside0.mk (below_drew1 HB.out)
    clear HO0
    clear BK111
    clear HK
    clear HB
    have HO0 := n0_
    have BK111 := n1_
    have HK := n2_
    have HB := n3_
    clear n0_ n1_ n2_ n3_
    refine start_ (n := 7) (S := fun w' => w'.cell? ⟨gb111, 0, none⟩ = some (.int .i64 a1_0) ∧ w'.cell? ⟨gb111, 1, none⟩ = some (.int .i64 a1_1) ∧ w'.cell? ⟨gb111, 2, none⟩ = some (.string a1_2)) (ds := []) #[false, false, false, false, false, false, false] (by kernel_rfl) rfl rfl ⟨(blk_cell BK111.out 0).trans rfl, (blk_cell BK111.out 1).trans rfl, (blk_cell BK111.out 2).trans rfl⟩ (fun hHeld => ?_)
    generalize w15.drew = w17 at HO0 BK111 HK HB hHeld ⊢
    refine pure_ (i := 0) (N := some 19) (v := ?_) (a' := ?_) #[true, false, false, false, false, false, false] rfl rfl (by kernel_rfl) (fun _ _ _ h => h) (Or.inl ⟨by rfl, ?_⟩) ?_ ?_
    rotate_left
    ·intro w'
     go_simp
     with_reducible rfl
    rotate_left
    ·simp only [Act.put, List.setIfInBounds_toArray, List.set_cons_zero, List.set_cons_succ, i64_w, i32_w]
     rfl
    refine pure_ (i := 3) (N := some 22) (v := ?_) (a' := ?_) #[true, false, false, true, false, false, false] rfl rfl (by kernel_rfl) (fun _ _ _ h => h) (Or.inl ⟨by rfl, ?_⟩) ?_ ?_
    rotate_left
    ·intro w'
     go_simp
     with_reducible rfl
    rotate_left
    ·simp only [Act.put, List.setIfInBounds_toArray, List.set_cons_zero, List.set_cons_succ, i64_w, i32_w]
     rfl
    refine take_ (i := 4) (N := some 23) (v := ?_) (a' := ?_) #[true, false, false, true, true, false, false] rfl rfl (by kernel_rfl) (fun _ _ _ h => h) (Or.inl ⟨by rfl, ?_⟩) hHeld ?_ ?_
    rotate_left
    ·rintro w' ⟨s0, s1, s2⟩
     go_simp
     with_reducible rfl
    rotate_left
    ·simp only [Act.put, List.setIfInBounds_toArray, List.set_cons_zero, List.set_cons_succ, i64_w, i32_w]
     rfl
    refine one_ (i := 1) (N := some 20) #[true, true, false, true, true, false, false] rfl rfl (by kernel_rfl) (by decide) (fun K hK => ?_)
    refine value_ (w1 := ?_) (v := ?_) (by rfl) rfl ?_ ?_
    rotate_left 2
    ·go_simp
     constructor
     ·rfl
     ·rfl
    refine hK.out _ _ ⟨(blk_cell (blk_alloc BK111.out _) 0).trans rfl, (blk_cell (blk_alloc BK111.out _) 1).trans rfl, (blk_cell (blk_alloc BK111.out _) 2).trans rfl⟩ (fun hHeld => ?_)
    clear hK K
    refine norm_ (a' := ?_) ?_ ?_
    rotate_left
    ·show Act.put _ (some 20) _ = _
     simp only [Act.put, List.setIfInBounds_toArray, List.set_cons_zero, List.set_cons_succ, i64_w, i32_w]
     rfl
    refine one_ (i := 2) (N := some 21) #[true, true, true, true, true, false, false] rfl rfl (by kernel_rfl) (by decide) (fun K hK => ?_)
    refine Kd.R_append_step (Kd.int .u8) (w0 := w0) w0.heap.size (by rfl) (.tmp 19) (.tmp 20) 73 5 (.int .u8 0) 1 rfl Tryd.underlying73 info5 rfl (by decide) (by omega) u9000_ l0 4 [.int .u8 4] (fun k_ => (P0_ k_ ∨ w.heap.size ≤ k_)) (fun _ => False) rfl rfl ?aP (fun _ hk => hk.elim) ?aF ?aO ?aB ?aS ?aL ?_
    (case aP => exact rfl)
    (case aB => exact (by repeat ((with_reducible exact HB.out))))
    (case aF => exact (fun k_ hk => (.inr (Nat.le_trans (by exact HK.out.1) hk))))
    (case aO => exact (by (with_reducible repeat (apply Kd.R_drew)); exact HO0.out))
    (case aS => exact (below_size (by repeat ((with_reducible exact HB.out)))))
    (case aL => have := LMc13.out; omega)
    intro v119 w18 ho hb hg hat
    rw [← Ny118.out] at ho
    have n0_ := Aside0.mk (blk_grown (g := gb111) (o := .cells #[.int .i64 a1_0, .int .i64 a1_1, .string a1_2] 91 (0, 0)) (by (with_reducible repeat (refine blk_drew ?_)); exact BK111.out) hg (Kd.R_ne HO0.out BK111.out (by decide)))
    have n1_ := Aside0.mk (hb)
    have n2_ := Aside0.mk (Kept.of_grown (S := (fun k_ => P0_ k_)) hg (by repeat ((with_reducible exact HK.out))) (fun k_ e_ => (HO0.out.1 k_ e_)))
    have n3_ := Aside0.mk (ho)
    clear BK111
    clear HB
    clear HK
    clear HO0
    have BK111 := n0_
    have HB := n1_
    have HK := n2_
    have HO120 := n3_
    clear n0_ n1_ n2_ n3_
    clear ho hb hg hat
    obtain ⟨Ao19, co19, eo19⟩ := Kd.R_slice HO120.out
    (subst eo19)
    refine hK.out _ _ ⟨(blk_cell BK111.out 0).trans rfl, (blk_cell BK111.out 1).trans rfl, (blk_cell BK111.out 2).trans rfl⟩ (fun hHeld => ?_)
    clear hK K
    refine norm_ (a' := ?_) ?_ ?_
    rotate_left
    ·show Act.put _ (some 21) _ = _
     simp only [Act.put, List.setIfInBounds_toArray, List.set_cons_zero, List.set_cons_succ, i64_w, i32_w]
     rfl
    refine one_ (i := 5) (N := some 24) #[true, true, true, true, true, true, false] rfl rfl (by kernel_rfl) (by decide) (fun K hK => ?_)
    refine goes_ Tryd.func85 (by kernel_rfl) rfl #[.slice Ao19 y118.length co19, .int .i64 a1_1, .int .u8 255] (by rfl) rfl rfl (by (try simp only [List.map_toArray, List.map_cons, List.map_nil]); rfl) ?_
    with_reducible refine (tuple_number.calls k (fun k_ => some k_ = (.slice Ao19 y118.length co19 : Value).ownBlock) (.slice Ao19 y118.length co19) y118 a1_1 255 t121 w0 _ ?side1 ?side2 A14.out).mono ?_
    (case side1 => repeat ((with_reducible exact HB.out)))
    (case side2 => exact Kd.R_tight rfl HO120.out)
    rintro e w20 ⟨v122, rfl, ho0, hb, hkp⟩
    refine ⟨_, rfl, ?_⟩
    have n0_ := Aside0.mk (blk_kept (by (with_reducible repeat (refine blk_drew ?_)); exact BK111.out) hkp (fun hs_ => (fun e_ => (Kd.R_ne HO120.out BK111.out (by decide)) e_) hs_))
    have n1_ := Aside0.mk (Kd.R_mono (ok' := fun k_ => (P0_ k_ ∨ w.heap.size ≤ k_)) ho0 (fun k_ hk_ => Or.elim hk_ (fun hs_ => (HO120.out.1 k_ (hs_).symm)) (fun hn_ => (.inr (Nat.le_trans (by exact HK.out.1) hn_)))))
    have n2_ := Aside0.mk (Kept.then_ (S := (fun k_ => P0_ k_)) (by repeat ((with_reducible exact HK.out))) hkp (fun k_ hs_ => (fun e_ => (HO120.out.1 k_ e_.symm)) hs_))
    have n3_ := Aside0.mk (hb)
    clear BK111
    clear HK
    clear HB
    clear HO120
    have BK111 := n0_
    have HO123 := n1_
    have HK := n2_
    have HB := n3_
    clear n0_ n1_ n2_ n3_
    (try clear hb)
    (try clear hkp)
    (try clear ho0)
    refine hK.out _ _ ⟨(blk_cell BK111.out 0).trans rfl, (blk_cell BK111.out 1).trans rfl, (blk_cell BK111.out 2).trans rfl⟩ (fun hHeld => ?_)
    clear hK K
    refine norm_ (a' := ?_) ?_ ?_
    rotate_left
    ·show Act.put _ (some 24) _ = _
     simp only [Act.put, List.setIfInBounds_toArray, List.set_cons_zero, List.set_cons_succ, i64_w, i32_w]
     rfl
    refine pure_ (i := 6) (N := some 4) (v := ?_) (a' := ?_) #[true, true, true, true, true, true, true] rfl rfl (by kernel_rfl) (fun _ _ _ h => h) (Or.inl ⟨by rfl, ?_⟩) ?_ ?_
    rotate_left
    ·intro w'
     go_simp
     with_reducible rfl
    rotate_left
    ·simp only [Act.put, List.setIfInBounds_toArray, List.set_cons_zero, List.set_cons_succ, i64_w, i32_w]
     rfl
    refine done_ (by kernel_rfl) ?_
    try go_wp2
    go_ret
    exact ⟨_, by rfl, by (with_reducible repeat (apply Kd.R_drew)); exact HO123.out, by repeat ((with_reducible exact HB.out)), by repeat ((with_reducible exact HK.out))⟩
   ·rw [if_neg c13] at H
    exact absurd H (by simp)
  ·rw [if_neg c12] at H
   have c12b0 : (a1_0 == 3) = false := beq_eq_false_iff_ne.mpr c12
   have c12b1 : (a1_0 != 3) = true := bne_iff_ne.mpr c12
   by_cases c21 : l0.length < 140737488355328
   ·rw [if_pos c21] at H
    have LMc21 := Aside0.mk c21
    clear c21
    obtain ⟨y124, hy124⟩ : ∃ y_ : List Int, y_ = (l0 ++ [2]) := ⟨_, rfl⟩
    replace H : (none) = some r := by with_reducible exact H
    have Ny124 := Aside0.mk hy124
    clear hy124
    exact absurd H (by simp)
   ·rw [if_neg c21] at H
    exact absurd H (by simp)

/-! ### tuple_put: the number kinds as printed, the text kind by hand -/
structure Hold7 (p : Prop) : Prop where
 out : p
theorem lv_hold7 {p : Prop} (h : Hold7 p) : p := h.out
/-- A text's bytes, as they stand in a key. -/
def esc : List Int → List Int
 | [] => []
 | c :: l => if c = 0 then 0 :: 255 :: esc l else c :: esc l
theorem esc_app (l m : List Int) : esc (l ++ m) = esc l ++ esc m := by
 induction l with
 | nil => rfl
 | cons c l ih =>
  show (if c = 0 then 0 :: 255 :: esc (l ++ m) else c :: esc (l ++ m)) = (if c = 0 then 0 :: 255 :: esc l else c :: esc l) ++ esc m
  rw [ih]
  split <;> rfl
theorem esc_len : ∀ l : List Int, (esc l).length ≤ 2 * l.length
 | [] => Nat.le_refl _
 | c :: l => by
  have := esc_len l
  show (if c = 0 then 0 :: 255 :: esc l else c :: esc l).length ≤ _
  split <;> simp only [List.length_cons] <;> omega
theorem take_snoc (l : List Int) (k : Nat) (h : k < l.length) : l.take (k + 1) = l.take k ++ [l.getD k 0] := by
 rw [List.take_add_one, List.getElem?_eq_getElem h, List.getD_eq_getElem?_getD, List.getElem?_eq_getElem h]
 rfl
theorem bytesGrown {W W1 : World} {g n : Nat} {xs : List Int} {row : Option Nat} (h : ReadsInt W .u8 (some ⟨g, 0, none⟩) n xs) (hg : W.grownBy W1 row) (hlt : g < W.heap.size) (hne : some g ≠ row) : ReadsInt W1 .u8 (some ⟨g, 0, none⟩) n xs := by
 refine ⟨h.1, h.2.1, fun hp => ?_⟩
 obtain ⟨ad, e, hc⟩ := h.2.2 hp
 cases e
 refine ⟨_, rfl, fun j hj => ?_⟩
 rw [← hc j hj, add_plain]
 exact hg.cell_far _ hlt hne
def tuple_put.f (k : Nat) (l0 : List Int) (a1_0 : Int) (a1_1 : Int) (a1_2 : ByteArray) : Option (List Int) :=
 if a1_0 = 2 ∨ a1_0 = 3 then tuple_putN.f k l0 a1_0 a1_1 a1_2
 else (if l0.length < 1000000 ∧ a1_2.size ≤ 1000000 then some (l0 ++ [2] ++ esc (bytesOf a1_2) ++ [0, 1]) else none)
theorem tuple_put.mono : ∀ a0 a1 a2 a3 k, LeO (tuple_put.f k a0 a1 a2 a3) (tuple_put.f (k + 1) a0 a1 a2 a3) := by
 intro a0 a1 a2 a3 k
 unfold tuple_put.f
 exact LeO.ite (tuple_putN.mono _ _ _ _ _) (LeO.refl _)
set_option maxHeartbeats 8000000 in
set_option maxRecDepth 100000 in
theorem tuple_put.calls (k : Nat) (P0_ : Nat → Prop) (u9000_ : Value) (l0 : List Int) (a1_0 : Int) (a1_1 : Int) (a1_2 : ByteArray) (r : List Int) (w0 w : World) (hB : Below w0.heap.size w0 w) (ho0 : Kd.R (Kd.int .u8) 5 w w0.heap.size P0_ u9000_ l0) (h : tuple_put.f k l0 a1_0 a1_1 a1_2 = some r) :
  Calls Tryd.prog 75 #[u9000_, .agg #[.int .i64 a1_0, .int .i64 a1_1, .string a1_2]] w fun e w' => ∃ v0_ : Value, e = .returned (v0_) ∧ Kd.R (Kd.int .u8) 5 w' w0.heap.size (fun k_ => (P0_ k_ ∨ w.heap.size ≤ k_)) v0_ r ∧ Below w0.heap.size w0 w' ∧ Kept w w' (fun k_ => P0_ k_) := by
 unfold tuple_put.f at h
 by_cases hk : a1_0 = 2 ∨ a1_0 = 3
 ·rw [if_pos hk] at h
  exact tuple_putN.calls k P0_ u9000_ l0 a1_0 a1_1 a1_2 r w0 w hB ho0 h
 ·rw [if_neg hk] at h
  by_cases hl : l0.length < 1000000 ∧ a1_2.size ≤ 1000000
  ·rw [if_pos hl] at h
   have hres := Aside0.mk (Option.some.inj h)
   clear h
   obtain ⟨hl0, hsz⟩ := hl
   have d2 : decide (a1_0 = 2) = false := decide_eq_false (fun e => hk (.inl e))
   have d3 : decide (a1_0 = 3) = false := decide_eq_false (fun e => hk (.inr e))
   have e2 : (a1_0 == 2) = false := beq_eq_false_iff_ne.mpr (fun e => hk (.inl e))
   have e3 : (a1_0 == 3) = false := beq_eq_false_iff_ne.mpr (fun e => hk (.inr e))
   clear hk
   have hu91 := Tryd.underlying91
   have kb := fun W => print_bytes (P := Tryd.prog) 9 73 5 Tryd.underlying9 Tryd.underlying73 Tryd.underlying5 a1_2 W
   have HO0 := Aside0.mk (show Kd.R (Kd.int .u8) 5 w w0.heap.size (fun k_ => (P0_ k_ ∨ w.heap.size ≤ k_)) u9000_ l0 from Kd.R_mono ho0 (fun k_ hk => (.inl hk)))
   have HK := Aside0.mk (Kept.refl w (fun k_ => P0_ k_))
   have HB := Aside0.mk hB
   clear hB ho0
   obtain ⟨Ao4, co4, eo4⟩ := Kd.R_slice HO0.out
   subst eo4
   go_enter Tryd.func75, Tryd.ntmps75
   go_wp2_with (first | ((with_reducible refine gate_dst (N := 3) rfl ?_); refine box_event ?hg (N := 3) ?hd (cs := #[.int .i64 a1_0, .int .i64 a1_1, .string a1_2]) (t := 91) ?hr ?_; (case hd => rfl); (case hg => rfl); (case hr => (go_simp; done)); intro gb hgb w7 hbox hb; have n0_ := Aside0.mk (Kd.R_below HO0.out hb); have n1_ := Aside0.mk (below_step HB.out hb); have n2_ := Aside0.mk (Kept.below HK.out hb); have BX := Aside0.mk hbox; clear HO0 HB HK hb hbox hgb; have HO0 := n0_; have HB := n1_; have HK := n2_; clear n0_ n1_ n2_; have hcz0 := (blk_cell BX.out 0).trans rfl; have hcz1 := (blk_cell BX.out 1).trans rfl; have hcz2 := (blk_cell BX.out 2).trans rfl) | ((with_reducible refine gate_builtin (b := .append) (xs := #[.tmp 25, .tmp 26]) rfl ?_); at_builtin; refine Kd.R_append (Kd.int .u8) (w0 := w0) w0.heap.size rfl (.tmp 25) (.tmp 26) 73 5 (.int .u8 0) 1 rfl Tryd.underlying73 info5 rfl (by decide) (by omega) (.slice Ao4 l0.length co4) l0 2 [.int .u8 2] (fun k_ => (P0_ k_ ∨ w.heap.size ≤ k_)) (fun _ => False) rfl rfl ?aP (fun _ hk => hk.elim) ?aF ?aO ?aB ?aS ?aL ?_; (case aP => exact rfl); (case aB => exact (by repeat ((with_reducible exact HB.out)))); (case aF => exact (fun k_ hk => (.inr (Nat.le_trans (show w.heap.size ≤ _ from (show Kept w _ (fun k_ => P0_ k_) from by repeat ((with_reducible exact HK.out))).1) hk)))); (case aO => exact (by (with_reducible repeat (apply Kd.R_drew)); exact HO0.out)); (case aS => exact (below_size (by repeat ((with_reducible exact HB.out))))); (case aL => omega); intro v_ w_ ho hb hg hat; have n0_ := Aside0.mk (hb); have n1_ := Aside0.mk (Kept.of_grown (S := (fun k_ => P0_ k_)) hg (by repeat ((with_reducible exact HK.out))) (fun k_ e_ => (HO0.out.1 k_ e_))); have n2_ := Aside0.mk (ho); have nb_ := Aside0.mk (blk_grown BX.out hg (Kd.R_ne HO0.out BX.out (by decide))); clear BX; have BX := nb_; clear nb_; clear HB; clear HK; clear HO0; have HB := n0_; have HK := n1_; have HO1 := n2_; clear n0_ n1_ n2_; clear ho hb hg hat; obtain ⟨A_, c_, e_⟩ := Kd.R_slice HO1.out; subst e_; refine lv_hold7 ?_))
   refine ⟨?_⟩
   clear hcz0 hcz1 hcz2
   have hcz2 := (blk_cell BX.out 2).trans rfl
   have kb0 := kb w_
   have hC := bytes_reads w_ 5 a1_2 (by omega)
   have hBb := bytes_below (Below.refl w_.heap.size w_) (Nat.le_refl _) 5 a1_2
   have hgs : w_.heap.size < (Lib.bytesWorld w_ 5 a1_2).heap.size := by rw [Lib.bytesWorld_size]; omega
   obtain ⟨W0, hW0⟩ : ∃ W0, Lib.bytesWorld w_ 5 a1_2 = W0 := ⟨_, rfl⟩
   rw [hW0] at kb0 hC hBb hgs
   have hlow := Kd.R_lt HO1.out
   obtain ⟨g, hg⟩ : ∃ g, g = w_.heap.size := ⟨_, rfl⟩
   rw [← hg] at hC kb0 hgs hlow
   have HO2 := Aside0.mk (Kd.R_mono (ok' := (fun k_ => (P0_ k_ ∨ w.heap.size ≤ k_) ∧ k_ ≠ g)) (Kd.R_below (Kd.R_tight rfl HO1.out) hBb) (fun k_ hk_ => ⟨HO1.out.1 k_ hk_.symm, by have := hlow k_ hk_.symm; omega⟩))
   have HB2 := Aside0.mk (below_step HB.out hBb)
   have HK2 := Aside0.mk (Kept.below HK.out hBb)
   clear HO1 HB HK hBb BX kb hW0
   have HO1 := HO2
   have HB := HB2
   have HK := HK2
   clear HO2 HB2 HK2
   have HBY := Aside0.mk hC
   have HG := Aside0.mk hgs
   have HGW := Aside0.mk hg
   clear hC hgs hg hlow
   have hbl := bytesOf_length a1_2
   go_wp2
   go_loopw [0, 32] (fun v i wr => ∃ k : Nat, i = .int .i64 k ∧ k ≤ a1_2.size ∧ ∃ A c, v = .slice A (l0 ++ [2] ++ esc ((bytesOf a1_2).take k)).length c ∧ Aside0 (Kd.R (Kd.int .u8) 5 wr w0.heap.size (fun k_ => (P0_ k_ ∨ w.heap.size ≤ k_) ∧ k_ ≠ g) (.slice A (l0 ++ [2] ++ esc ((bytesOf a1_2).take k)).length c) (l0 ++ [2] ++ esc ((bytesOf a1_2).take k))) ∧ Aside0 (Below w0.heap.size w0 wr) ∧ Aside0 (Kept w wr (fun k_ => P0_ k_)) ∧ Aside0 (ReadsInt wr .u8 (some ⟨g, 0, none⟩) a1_2.size (bytesOf a1_2)) ∧ Aside0 (g < wr.heap.size)) (fun _ i _ => a1_2.size - (intOf i).toNat)
   case atStart => exact ⟨0, rfl, Nat.zero_le _, A_, c_, by simp [esc], by simpa [esc] using HO1, HB, HK, HBY, HG⟩
   case round =>
    clear HO1 HB HK HBY HG
    obtain ⟨k, rfl, hk, A, cp, rfl, HO, HB, HK, HBY, HG⟩ := hrel
    have hxl : (l0 ++ [2] ++ esc ((bytesOf a1_2).take k)).length ≤ 4000001 := by
     have := esc_len ((bytesOf a1_2).take k)
     rw [List.length_append, List.length_append]
     rw [List.length_take] at this
     simp only [List.length_cons, List.length_nil]
     omega
    by_cases hlt : k < a1_2.size
    ·have hsn := take_snoc (bytesOf a1_2) k (by omega)
     obtain ⟨ad, had, hcell⟩ := HBY.out.2.2 (by omega)
     cases had
     have hc := hcell k hlt
     rw [add_plain] at hc
     clear hcell
     generalize hcv : (bytesOf a1_2).getD k 0 = c at hc hsn
     have hnext : l0 ++ [2] ++ esc ((bytesOf a1_2).take (k + 1)) = (l0 ++ [2] ++ esc ((bytesOf a1_2).take k)) ++ (if c = 0 then [0, 255] else [c]) := by
      rw [hsn, esc_app, ← List.append_assoc]
      congr 1
     have hnext := Aside0.mk hnext
     clear hsn hcv
     generalize (l0 ++ [2] ++ esc ((bytesOf a1_2).take k)) = xs at HO hxl hnext
     by_cases c0 : c = 0
     ·subst c0
      have d0 : decide ((0 : Int) = 0) = true := by simp
      obtain ⟨x1, hx1⟩ : ∃ x_, x_ = xs ++ [(0 : Int)] := ⟨_, rfl⟩
      obtain ⟨x2, hx2⟩ : ∃ x_, x_ = x1 ++ [(255 : Int)] := ⟨_, rfl⟩
      have hx1l : x1.length ≤ 4000002 := by rw [hx1, List.length_append, List.length_singleton]; omega
      have N1 := Aside0.mk hx1
      have N2 := Aside0.mk hx2
      clear hx1 hx2
      go_wp2_with (first | ((with_reducible refine gate_builtin (b := .append) (xs := #[.tmp 36, .tmp 38]) rfl ?_); at_builtin; refine Kd.R_append (Kd.int .u8) (w0 := w0) w0.heap.size rfl (.tmp 36) (.tmp 38) 73 5 (.int .u8 0) 1 rfl Tryd.underlying73 info5 rfl (by decide) (by omega) (.slice A xs.length cp) xs 0 [.int .u8 0] (fun k_ => (P0_ k_ ∨ w.heap.size ≤ k_) ∧ k_ ≠ g) (fun _ => False) rfl rfl ?aP (fun _ hk => hk.elim) ?aF ?aO ?aB ?aS ?aL ?_; (case aP => exact rfl); (case aB => exact (by repeat ((with_reducible exact HB.out)))); (case aF => exact (fun k_ hk => ⟨(.inr (Nat.le_trans (show w.heap.size ≤ _ from (show Kept w _ (fun k_ => P0_ k_) from by repeat ((with_reducible exact HK.out))).1) hk)), by have h_ := HG.out; omega⟩)); (case aO => exact (by (with_reducible repeat (apply Kd.R_drew)); exact HO.out)); (case aS => exact (below_size (by repeat ((with_reducible exact HB.out))))); (case aL => omega); intro v_ w_ ho hb hg hat; rw [← N1.out] at ho; have n0_ := Aside0.mk (hb); have n1_ := Aside0.mk (Kept.of_grown (S := (fun k_ => P0_ k_)) hg (by repeat ((with_reducible exact HK.out))) (fun k_ e_ => (HO.out.1 k_ e_).1)); have n2_ := Aside0.mk (ho); have n3_ := Aside0.mk (bytesGrown HBY.out hg HG.out (fun e_ => (HO.out.1 _ e_.symm).2 rfl)); have n4_ := Aside0.mk (Nat.lt_of_lt_of_le HG.out hg.size); clear HB; clear HK; clear HO HBY HG; have HB := n0_; have HK := n1_; have HO3 := n2_; have HBY := n3_; have HG := n4_; clear n0_ n1_ n2_ n3_ n4_; clear ho hb hg hat; obtain ⟨A_, c_, e_⟩ := Kd.R_slice HO3.out; subst e_) | ((with_reducible refine gate_builtin (b := .append) (xs := #[.tmp 42, .tmp 43]) rfl ?_); at_builtin; refine Kd.R_append (Kd.int .u8) (w0 := w0) w0.heap.size rfl (.tmp 42) (.tmp 43) 73 5 (.int .u8 0) 1 rfl Tryd.underlying73 info5 rfl (by decide) (by omega) (.slice A_ x1.length c_) x1 255 [.int .u8 255] (fun k_ => (P0_ k_ ∨ w.heap.size ≤ k_) ∧ k_ ≠ g) (fun _ => False) rfl rfl ?aP (fun _ hk => hk.elim) ?aF ?aO ?aB ?aS ?aL ?_; (case aP => exact rfl); (case aB => exact (by repeat ((with_reducible exact HB.out)))); (case aF => exact (fun k_ hk => ⟨(.inr (Nat.le_trans (show w.heap.size ≤ _ from (show Kept w _ (fun k_ => P0_ k_) from by repeat ((with_reducible exact HK.out))).1) hk)), by have h_ := HG.out; omega⟩)); (case aO => exact (by (with_reducible repeat (apply Kd.R_drew)); exact HO3.out)); (case aS => exact (below_size (by repeat ((with_reducible exact HB.out))))); (case aL => omega); intro v_ w_ ho hb hg hat; rw [← N2.out] at ho; have n0_ := Aside0.mk (hb); have n1_ := Aside0.mk (Kept.of_grown (S := (fun k_ => P0_ k_)) hg (by repeat ((with_reducible exact HK.out))) (fun k_ e_ => (HO3.out.1 k_ e_).1)); have n2_ := Aside0.mk (ho); have n3_ := Aside0.mk (bytesGrown HBY.out hg HG.out (fun e_ => (HO3.out.1 _ e_.symm).2 rfl)); have n4_ := Aside0.mk (Nat.lt_of_lt_of_le HG.out hg.size); clear HB; clear HK; clear HO3 HBY HG; have HB := n0_; have HK := n1_; have HO4 := n2_; have HBY := n3_; have HG := n4_; clear n0_ n1_ n2_ n3_ n4_; clear ho hb hg hat; obtain ⟨A_, c_, e_⟩ := Kd.R_slice HO4.out; subst e_))
      have hfin : l0 ++ [2] ++ esc ((bytesOf a1_2).take (k + 1)) = x2 := by
       rw [hnext.out, N2.out, N1.out, if_pos rfl, List.append_assoc]
       rfl
      go_roundw
      case rel => exact ⟨k + 1, rfl, by omega, A_, c_, by rw [hfin], ⟨by rw [hfin]; exact HO4.out⟩, HB, HK, HBY, HG⟩
      case measure => simp [intOf]; omega
     ·have d0 : decide (c = 0) = false := decide_eq_false c0
      have d1 : (c == 0) = false := beq_eq_false_iff_ne.mpr c0
      obtain ⟨x1, hx1⟩ : ∃ x_, x_ = xs ++ [c] := ⟨_, rfl⟩
      have N1 := Aside0.mk hx1
      clear hx1
      go_wp2_with (((with_reducible refine gate_builtin (b := .append) (xs := #[.tmp 36, .tmp 38]) rfl ?_); at_builtin; refine Kd.R_append (Kd.int .u8) (w0 := w0) w0.heap.size rfl (.tmp 36) (.tmp 38) 73 5 (.int .u8 0) 1 rfl Tryd.underlying73 info5 rfl (by decide) (by omega) (.slice A xs.length cp) xs c [.int .u8 c] (fun k_ => (P0_ k_ ∨ w.heap.size ≤ k_) ∧ k_ ≠ g) (fun _ => False) rfl rfl ?aP (fun _ hk => hk.elim) ?aF ?aO ?aB ?aS ?aL ?_; (case aP => exact rfl); (case aB => exact (by repeat ((with_reducible exact HB.out)))); (case aF => exact (fun k_ hk => ⟨(.inr (Nat.le_trans (show w.heap.size ≤ _ from (show Kept w _ (fun k_ => P0_ k_) from by repeat ((with_reducible exact HK.out))).1) hk)), by have h_ := HG.out; omega⟩)); (case aO => exact (by (with_reducible repeat (apply Kd.R_drew)); exact HO.out)); (case aS => exact (below_size (by repeat ((with_reducible exact HB.out))))); (case aL => omega); intro v_ w_ ho hb hg hat; rw [← N1.out] at ho; have n0_ := Aside0.mk (hb); have n1_ := Aside0.mk (Kept.of_grown (S := (fun k_ => P0_ k_)) hg (by repeat ((with_reducible exact HK.out))) (fun k_ e_ => (HO.out.1 k_ e_).1)); have n2_ := Aside0.mk (ho); have n3_ := Aside0.mk (bytesGrown HBY.out hg HG.out (fun e_ => (HO.out.1 _ e_.symm).2 rfl)); have n4_ := Aside0.mk (Nat.lt_of_lt_of_le HG.out hg.size); clear HB; clear HK; clear HO HBY HG; have HB := n0_; have HK := n1_; have HO3 := n2_; have HBY := n3_; have HG := n4_; clear n0_ n1_ n2_ n3_ n4_; clear ho hb hg hat; obtain ⟨A_, c_, e_⟩ := Kd.R_slice HO3.out; subst e_))
      have hfin : l0 ++ [2] ++ esc ((bytesOf a1_2).take (k + 1)) = x1 := by
       rw [hnext.out, N1.out, if_neg c0]
      go_roundw
      case rel => exact ⟨k + 1, rfl, by omega, A_, c_, by rw [hfin], ⟨by rw [hfin]; exact HO3.out⟩, HB, HK, HBY, HG⟩
      case measure => simp [intOf]; omega
    ·obtain rfl : k = a1_2.size := by omega
     have hall : (bytesOf a1_2).take a1_2.size = bytesOf a1_2 := List.take_of_length_le (by omega)
     rw [hall] at HO hxl ⊢
     have hres' := hres.out
     generalize (l0 ++ [2] ++ esc (bytesOf a1_2)) = xs at HO hxl hres' ⊢
     have hres'' := Aside0.mk hres'
     clear hres'
     go_wp2_with (first | ((with_reducible refine gate_dst (N := 47) rfl ?_); refine Kd.R_lit (Kd.int .u8) (w0 := w0) w0.heap.size 5 ?hg (N := 47) ?hd (xs := [0, 1]) (inner := [.int .u8 0, .int .u8 1]) (ok := fun _ => True) (okp := fun _ => True) ?hr ?hp (fun _ hk => hk) trivial HB.out (below_size HB.out) (by simp) ?_; (case hd => rfl); (case hg => rfl); (case hr => (go_simp; done)); (case hp => exact Kd.reps_scalar _); intro v47 w47 ho47 hb hg_ hnew_; have n0_ := Aside0.mk (Kd.R_grown HO.out hg_ (fun _ _ => by simp)); have n1_ := Aside0.mk hb; have n2_ := Aside0.mk (Kept.of_grown (S := (fun k_ => P0_ k_)) hg_ HK.out (fun _ e_ => by cases e_)); have HL := Aside0.mk ho47; clear HO HB HK ho47 hb hg_ hnew_; have HO := n0_; have HB := n1_; have HK := n2_; clear n0_ n1_ n2_; obtain ⟨A47, c47, e_⟩ := Kd.R_slice HL.out; subst e_) | ((with_reducible refine gate_builtin (b := .append) (xs := #[.tmp 46, .tmp 47]) rfl ?_); refine lv_hold7 ?_))
     refine ⟨?_⟩
     at_builtin
     refine Kd.R_append_rows (Kd.int .u8) (w0 := w0) w0.heap.size rfl (.tmp 46) (.tmp 47) 73 5 (.int .u8 0) 1 rfl Tryd.underlying73 info5 rfl (by decide) (by omega) (.slice A xs.length cp) xs [0, 1] _ _ _ (fun k_ => (P0_ k_ ∨ w.heap.size ≤ k_)) (fun _ => False) rfl rfl ?aO ?aR (fun _ _ h => h) (fun _ h => h.elim) ?aF ?aB ?aS ?aL ?_
     (case aR => exact (Kd.R_reads' HL.out).2.2)
     (case aB => exact HB.out)
     (case aF => exact (fun k_ hk => (.inr (Nat.le_trans HK.out.1 hk))))
     (case aO => exact Kd.R_mono HO.out (fun _ hk => hk.1))
     (case aS => exact (below_size HB.out))
     (case aL => omega)
     intro v_ w_ ho hb hg hat
     have n1_ := Aside0.mk (Kept.of_grown (S := (fun k_ => P0_ k_)) hg HK.out (fun k_ e_ => (HO.out.1 k_ e_).1))
     have HF := Aside0.mk ho
     have HB5 := Aside0.mk hb
     clear ho hb hg hat
     go_wp2
     go_ret
     exact ⟨_, rfl, by rw [← hres''.out]; exact HF.out, HB5.out, n1_.out⟩
  ·rw [if_neg hl] at h
   cases h

end Go.Proofs.YtbdfmjgndeigpaaDoor.P
