-- by xprint (this session's program over the kit's printer)
import Derived.Test.YtbhmffbpbicilaaPx0
import Derived.Test.YtbhmffbpbicilaaPx7
import Derived.Test.YtbhmffbpbicilaaPx8
import Derived.Outline
import Derived.WalkSpells
namespace Go.Proofs.Ytbhmffbpbicilaa.P
open Go.RowKit Go.Proofs.YtbhmffbpbicilaaW.PrintWords Go.Proofs.YtbhmffbpbicilaaW.PrintLast Go.Proofs.YtbhmffbpbicilaaW.PrintMore
attribute [local go_sem] max2_int min2_int max_two min_two max_three min_three max_four min_four   -- for this text's walks alone
set_option linter.unusedVariables false
set_option linter.unusedSimpArgs false

/-! ### w20_lives: by hand -/
theorem C_lit9 (W : World) (xs : List ByteArray) (hn : xs.length ≤ 9223372036854775807) : Kd.C Kd.string (W.alloc (.cells (pw_strs xs).toArray 9)) (some ⟨W.heap.size, 0, none⟩) xs.length xs := by
  have h := World.ownsRow_lit (base := W.heap.size) (e := 9) (size := 1) W (pw_strs xs).toArray xs.length (Nat.le_refl _) (by simpa [maxLen] using hn) (by simp [pw_strs])
  obtain ⟨A, c, he, _, hC⟩ := Kd.R_reads (d := Kd.string) (ok := fun _ => True) ⟨fun _ _ => trivial, _, h, Kd.reps_scalar xs⟩
  injection he with he
  rw [he]
  exact hC
theorem C_lit9b (W : World) (o : Obj) (xs : List ByteArray) (hn : xs.length ≤ 9223372036854775807) : Kd.C Kd.string ((W.alloc o).alloc (.cells (pw_strs xs).toArray 9)) (some ⟨W.heap.size + 1, 0, none⟩) xs.length xs := by
  have h := C_lit9 (W.alloc o) xs hn
  have e : (W.alloc o).heap.size = W.heap.size + 1 := Array.size_push _
  rwa [e] at h
structure Hold (p : Prop) : Prop where
  out : p
theorem lv_hold {p : Prop} (h : Hold p) : p := h.out
/-- What a page that was told leaves behind: its rows are read. -/
structure PgRow (W : World) (v : Value) (xs : List ByteArray) : Prop where
  ex : ∃ A c, v = .slice A xs.length c ∧ xs.length ≤ c ∧ Kd.C Kd.string W A xs.length xs
def w20_lives.f : Option Bool := some true
set_option maxHeartbeats 8000000 in
set_option maxRecDepth 100000 in
theorem w20_lives.calls (r : Bool) (w : World) (h : w20_lives.f = some r) :
    Calls Try.prog 8 #[] w fun e w' => e = .returned (.bool r) ∧ Below w.heap.size w w' := by
  obtain rfl : true = r := by simpa [w20_lives.f] using h
  clear h
  have hP1 : listing_Page.f [⟨#[97]⟩, ⟨#[98, 47, 49]⟩, ⟨#[98, 47, 50]⟩, ⟨#[99]⟩] ⟨#[]⟩ ⟨#[47]⟩ ⟨#[]⟩ 50 = some ([⟨#[97]⟩, ⟨#[99]⟩], [⟨#[98, 47]⟩], ⟨#[]⟩, false, 0) := by decide +kernel
  have hP2 : listing_Page.f [⟨#[97]⟩, ⟨#[98, 47, 49]⟩, ⟨#[98, 47, 50]⟩, ⟨#[99]⟩] ⟨#[]⟩ ⟨#[47]⟩ ⟨#[]⟩ 2 = some ([⟨#[97]⟩], [⟨#[98, 47]⟩], ⟨#[98, 47]⟩, true, 0) := by decide +kernel
  have hP3 : listing_Page.f [⟨#[97]⟩, ⟨#[98, 47, 49]⟩, ⟨#[98, 47, 50]⟩, ⟨#[99]⟩] ⟨#[]⟩ ⟨#[47]⟩ ⟨#[98, 47]⟩ 2 = some ([⟨#[99]⟩], [], ⟨#[]⟩, false, 0) := by decide +kernel
  have hP4 : listing_Page.f [⟨#[97]⟩, ⟨#[98, 47, 49]⟩, ⟨#[98, 47, 50]⟩, ⟨#[99]⟩] ⟨#[]⟩ ⟨#[47]⟩ ⟨#[98, 47, 49]⟩ 2 = some ([⟨#[99]⟩], [], ⟨#[]⟩, false, 0) := by decide +kernel
  have hP1 := Aside0.mk hP1
  have hP2 := Aside0.mk hP2
  have hP3 := Aside0.mk hP3
  have hP4 := Aside0.mk hP4
  go_enter Try.func8, Try.ntmps8
  have hCl := C_lit9 w [⟨#[97]⟩, ⟨#[98, 47, 49]⟩, ⟨#[98, 47, 50]⟩, ⟨#[99]⟩] (by decide)
  have HB := Aside0.mk (below_alloc (W := w) (w := w) (Below.refl w.heap.size w) (Obj.cells (pw_strs [⟨#[97]⟩, ⟨#[98, 47, 49]⟩, ⟨#[98, 47, 50]⟩, ⟨#[99]⟩]).toArray 9 (0,0)))
  go_wp2_with fail
  obtain ⟨w0, hw0⟩ : ∃ x_, x_ = w.alloc (.cells (pw_strs [⟨#[97]⟩, ⟨#[98, 47, 49]⟩, ⟨#[98, 47, 50]⟩, ⟨#[99]⟩]).toArray 9) := ⟨_, rfl⟩
  rw [← hw0] at hCl HB
  change Calls _ _ _ (w.alloc (.cells (pw_strs [⟨#[97]⟩, ⟨#[98, 47, 49]⟩, ⟨#[98, 47, 50]⟩, ⟨#[99]⟩]).toArray 9)) _
  rw [← hw0]
  have HL := Aside0.mk hCl
  clear hCl
  refine (listing_Page.calls (some ⟨w.heap.size, 0, none⟩) 4 [⟨#[97]⟩, ⟨#[98, 47, 49]⟩, ⟨#[98, 47, 50]⟩, ⟨#[99]⟩] ⟨#[]⟩ ⟨#[47]⟩ ⟨#[]⟩ 50 _ _ _ _ _ _ HL.out (by decide) hP1.out).mono ?_
  rintro e w1 ⟨v0_, v1_, rfl, hn, hp, hb⟩
  obtain ⟨An1, cn1, rfl, hc0, hC0⟩ := Kd.R_reads hn
  obtain ⟨Ap1, cp1, rfl, hc1, hC1⟩ := Kd.R_reads hp
  replace HL := Aside0.mk (Kd.C_below HL.out hb)
  replace HB := Aside0.mk (below_step HB.out hb)
  have HN1 := Aside0.mk hC0
  have HP1 := Aside0.mk hC1
  have Hn1 := Aside0.mk hc0
  have Hp1 := Aside0.mk hc1
  clear hn hp hb hC0 hC1 hc0 hc1
  go_wp2_with fail
  obtain ⟨V1, hV1⟩ : ∃ x_, x_ = w1.alloc (Obj.cells #[.slice An1 2 cn1, .slice Ap1 1 cp1, .string ⟨#[]⟩, .bool false] 26 (0,0)) := ⟨_, rfl⟩
  have BK1 := Aside0.mk (blk_new w1 (Obj.cells #[.slice An1 2 cn1, .slice Ap1 1 cp1, .string ⟨#[]⟩, .bool false] 26 (0,0)))
  have hb := below_alloc (Below.refl w1.heap.size w1) (Obj.cells #[.slice An1 2 cn1, .slice Ap1 1 cp1, .string ⟨#[]⟩, .bool false] 26 (0,0))
  rw [← hV1] at BK1 hb
  change Calls _ _ _ (w1.alloc (Obj.cells #[.slice An1 2 cn1, .slice Ap1 1 cp1, .string ⟨#[]⟩, .bool false] 26 (0,0))) _
  rw [← hV1]
  replace HL := Aside0.mk (Kd.C_below HL.out hb)
  replace HN1 := Aside0.mk (Kd.C_below HN1.out hb)
  replace HP1 := Aside0.mk (Kd.C_below HP1.out hb)
  replace HB := Aside0.mk (below_step HB.out hb)
  clear hb hV1
  refine (listing_Page.calls (some ⟨w.heap.size, 0, none⟩) 4 [⟨#[97]⟩, ⟨#[98, 47, 49]⟩, ⟨#[98, 47, 50]⟩, ⟨#[99]⟩] ⟨#[]⟩ ⟨#[47]⟩ ⟨#[]⟩ 2 _ _ _ _ _ _ HL.out (by decide) hP2.out).mono ?_
  rintro e w2 ⟨v0_, v1_, rfl, hn, hp, hb⟩
  obtain ⟨An2, cn2, rfl, hc0, hC0⟩ := Kd.R_reads hn
  obtain ⟨Ap2, cp2, rfl, hc1, hC1⟩ := Kd.R_reads hp
  replace HL := Aside0.mk (Kd.C_below HL.out hb)
  replace HN1 := Aside0.mk (Kd.C_below HN1.out hb)
  replace HP1 := Aside0.mk (Kd.C_below HP1.out hb)
  replace HB := Aside0.mk (below_step HB.out hb)
  replace BK1 := Aside0.mk ((hb.block _ (blk_lt BK1.out)).trans BK1.out)
  have HN2 := Aside0.mk hC0
  have HP2 := Aside0.mk hC1
  have Hn2 := Aside0.mk hc0
  have Hp2 := Aside0.mk hc1
  clear hn hp hb hC0 hC1 hc0 hc1
  go_wp2_with fail
  obtain ⟨V2, hV2⟩ : ∃ x_, x_ = w2.alloc (Obj.cells #[.slice An2 1 cn2, .slice Ap2 1 cp2, .string ⟨#[98, 47]⟩, .bool true] 26 (0,0)) := ⟨_, rfl⟩
  have BK2 := Aside0.mk (blk_new w2 (Obj.cells #[.slice An2 1 cn2, .slice Ap2 1 cp2, .string ⟨#[98, 47]⟩, .bool true] 26 (0,0)))
  have hb := below_alloc (Below.refl w2.heap.size w2) (Obj.cells #[.slice An2 1 cn2, .slice Ap2 1 cp2, .string ⟨#[98, 47]⟩, .bool true] 26 (0,0))
  rw [← hV2] at BK2 hb
  change Calls _ _ _ (w2.alloc (Obj.cells #[.slice An2 1 cn2, .slice Ap2 1 cp2, .string ⟨#[98, 47]⟩, .bool true] 26 (0,0))) _
  rw [← hV2]
  replace HL := Aside0.mk (Kd.C_below HL.out hb)
  replace HN1 := Aside0.mk (Kd.C_below HN1.out hb)
  replace HP1 := Aside0.mk (Kd.C_below HP1.out hb)
  replace HN2 := Aside0.mk (Kd.C_below HN2.out hb)
  replace HP2 := Aside0.mk (Kd.C_below HP2.out hb)
  replace BK1 := Aside0.mk ((hb.block _ (blk_lt BK1.out)).trans BK1.out)
  replace HB := Aside0.mk (below_step HB.out hb)
  clear hb hV2
  refine (listing_Page.calls (some ⟨w.heap.size, 0, none⟩) 4 [⟨#[97]⟩, ⟨#[98, 47, 49]⟩, ⟨#[98, 47, 50]⟩, ⟨#[99]⟩] ⟨#[]⟩ ⟨#[47]⟩ ⟨#[98, 47]⟩ 2 _ _ _ _ _ _ HL.out (by decide) hP3.out).mono ?_
  rintro e w3 ⟨v0_, v1_, rfl, hn, hp, hb⟩
  obtain ⟨An3, cn3, rfl, hc0, hC0⟩ := Kd.R_reads hn
  obtain ⟨Ap3, cp3, rfl, hc1, hC1⟩ := Kd.R_reads hp
  replace HL := Aside0.mk (Kd.C_below HL.out hb)
  replace HN1 := Aside0.mk (Kd.C_below HN1.out hb)
  replace HP1 := Aside0.mk (Kd.C_below HP1.out hb)
  replace HN2 := Aside0.mk (Kd.C_below HN2.out hb)
  replace HP2 := Aside0.mk (Kd.C_below HP2.out hb)
  replace HB := Aside0.mk (below_step HB.out hb)
  replace BK1 := Aside0.mk ((hb.block _ (blk_lt BK1.out)).trans BK1.out)
  replace BK2 := Aside0.mk ((hb.block _ (blk_lt BK2.out)).trans BK2.out)
  have HN3 := Aside0.mk hC0
  have HP3 := Aside0.mk hC1
  have Hn3 := Aside0.mk hc0
  have Hp3 := Aside0.mk hc1
  clear hn hp hb hC0 hC1 hc0 hc1
  go_wp2_with fail
  obtain ⟨V3, hV3⟩ : ∃ x_, x_ = w3.alloc (Obj.cells #[.slice An3 1 cn3, .slice Ap3 0 cp3, .string ⟨#[]⟩, .bool false] 26 (0,0)) := ⟨_, rfl⟩
  have BK3 := Aside0.mk (blk_new w3 (Obj.cells #[.slice An3 1 cn3, .slice Ap3 0 cp3, .string ⟨#[]⟩, .bool false] 26 (0,0)))
  have hb := below_alloc (Below.refl w3.heap.size w3) (Obj.cells #[.slice An3 1 cn3, .slice Ap3 0 cp3, .string ⟨#[]⟩, .bool false] 26 (0,0))
  rw [← hV3] at BK3 hb
  change Calls _ _ _ (w3.alloc (Obj.cells #[.slice An3 1 cn3, .slice Ap3 0 cp3, .string ⟨#[]⟩, .bool false] 26 (0,0))) _
  rw [← hV3]
  replace HL := Aside0.mk (Kd.C_below HL.out hb)
  replace HN1 := Aside0.mk (Kd.C_below HN1.out hb)
  replace HP1 := Aside0.mk (Kd.C_below HP1.out hb)
  replace HN2 := Aside0.mk (Kd.C_below HN2.out hb)
  replace HP2 := Aside0.mk (Kd.C_below HP2.out hb)
  replace HN3 := Aside0.mk (Kd.C_below HN3.out hb)
  replace HP3 := Aside0.mk (Kd.C_below HP3.out hb)
  replace BK1 := Aside0.mk ((hb.block _ (blk_lt BK1.out)).trans BK1.out)
  replace BK2 := Aside0.mk ((hb.block _ (blk_lt BK2.out)).trans BK2.out)
  replace HB := Aside0.mk (below_step HB.out hb)
  clear hb hV3
  refine (listing_Page.calls (some ⟨w.heap.size, 0, none⟩) 4 [⟨#[97]⟩, ⟨#[98, 47, 49]⟩, ⟨#[98, 47, 50]⟩, ⟨#[99]⟩] ⟨#[]⟩ ⟨#[47]⟩ ⟨#[98, 47, 49]⟩ 2 _ _ _ _ _ _ HL.out (by decide) hP4.out).mono ?_
  rintro e w4 ⟨v0_, v1_, rfl, hn, hp, hb⟩
  obtain ⟨An4, cn4, rfl, hc0, hC0⟩ := Kd.R_reads hn
  obtain ⟨Ap4, cp4, rfl, hc1, hC1⟩ := Kd.R_reads hp
  replace HL := Aside0.mk (Kd.C_below HL.out hb)
  replace HN1 := Aside0.mk (Kd.C_below HN1.out hb)
  replace HP1 := Aside0.mk (Kd.C_below HP1.out hb)
  replace HN2 := Aside0.mk (Kd.C_below HN2.out hb)
  replace HP2 := Aside0.mk (Kd.C_below HP2.out hb)
  replace HN3 := Aside0.mk (Kd.C_below HN3.out hb)
  replace HP3 := Aside0.mk (Kd.C_below HP3.out hb)
  replace HB := Aside0.mk (below_step HB.out hb)
  replace BK1 := Aside0.mk ((hb.block _ (blk_lt BK1.out)).trans BK1.out)
  replace BK2 := Aside0.mk ((hb.block _ (blk_lt BK2.out)).trans BK2.out)
  replace BK3 := Aside0.mk ((hb.block _ (blk_lt BK3.out)).trans BK3.out)
  have HN4 := Aside0.mk hC0
  have HP4 := Aside0.mk hC1
  have Hn4 := Aside0.mk hc0
  have Hp4 := Aside0.mk hc1
  clear hn hp hb hC0 hC1 hc0 hc1
  go_wp2_with ((with_reducible refine gate_dst (N := 31) rfl ?_); refine lv_hold ?_)
  obtain ⟨V4, hV4⟩ : ∃ x_, x_ = w4.alloc (Obj.cells #[.slice An4 1 cn4, .slice Ap4 0 cp4, .string ⟨#[]⟩, .bool false] 26 (0,0)) := ⟨_, rfl⟩
  have BK4 := Aside0.mk (blk_new w4 (Obj.cells #[.slice An4 1 cn4, .slice Ap4 0 cp4, .string ⟨#[]⟩, .bool false] 26 (0,0)))
  have hb := below_alloc (Below.refl w4.heap.size w4) (Obj.cells #[.slice An4 1 cn4, .slice Ap4 0 cp4, .string ⟨#[]⟩, .bool false] 26 (0,0))
  rw [← hV4] at BK4 hb
  rw [← hV4]
  replace HL := Aside0.mk (Kd.C_below HL.out hb)
  replace HN1 := Aside0.mk (Kd.C_below HN1.out hb)
  replace HP1 := Aside0.mk (Kd.C_below HP1.out hb)
  replace HN2 := Aside0.mk (Kd.C_below HN2.out hb)
  replace HP2 := Aside0.mk (Kd.C_below HP2.out hb)
  replace HN3 := Aside0.mk (Kd.C_below HN3.out hb)
  replace HP3 := Aside0.mk (Kd.C_below HP3.out hb)
  replace HN4 := Aside0.mk (Kd.C_below HN4.out hb)
  replace HP4 := Aside0.mk (Kd.C_below HP4.out hb)
  replace BK1 := Aside0.mk ((hb.block _ (blk_lt BK1.out)).trans BK1.out)
  replace BK2 := Aside0.mk ((hb.block _ (blk_lt BK2.out)).trans BK2.out)
  replace BK3 := Aside0.mk ((hb.block _ (blk_lt BK3.out)).trans BK3.out)
  replace HB := Aside0.mk (below_step HB.out hb)
  clear hb hV4
  refine ⟨?_⟩
  have hcz1_0 := (blk_cell BK1.out 0).trans rfl; have hfz1_0 := blk_frozen BK1.out 0; have hcz1_1 := (blk_cell BK1.out 1).trans rfl; have hfz1_1 := blk_frozen BK1.out 1; have hcz1_2 := (blk_cell BK1.out 2).trans rfl; have hfz1_2 := blk_frozen BK1.out 2; have hcz1_3 := (blk_cell BK1.out 3).trans rfl; have hfz1_3 := blk_frozen BK1.out 3
  go_wp2_with fail
  have hx1 := Kd.C_alloc (C_lit9 V4 [⟨#[97]⟩, ⟨#[99]⟩] (by decide)) (Obj.cells (pw_strs [⟨#[98, 47]⟩]).toArray 9 (0,0))
  have hx2 := C_lit9b V4 (Obj.cells (pw_strs [⟨#[97]⟩, ⟨#[99]⟩]).toArray 9 (0,0)) [⟨#[98, 47]⟩] (by decide)
  have hz := below_alloc (below_alloc (Below.refl V4.heap.size V4) (Obj.cells (pw_strs [⟨#[97]⟩, ⟨#[99]⟩]).toArray 9 (0,0))) (Obj.cells (pw_strs [⟨#[98, 47]⟩]).toArray 9 (0,0))
  have hf := (show r20_Same.f 9 [⟨#[97]⟩, ⟨#[99]⟩] [⟨#[98, 47]⟩] ⟨#[]⟩ false [⟨#[97]⟩, ⟨#[99]⟩] [⟨#[98, 47]⟩] ⟨#[]⟩ false = some true by decide +kernel)
  refine (r20_Same.calls 9 An1 cn1 [⟨#[97]⟩, ⟨#[99]⟩] Ap1 cp1 [⟨#[98, 47]⟩] ⟨#[]⟩ false (some ⟨V4.heap.size, 0, none⟩) 2 [⟨#[97]⟩, ⟨#[99]⟩] (some ⟨V4.heap.size + 1, 0, none⟩) 1 [⟨#[98, 47]⟩] ⟨#[]⟩ false true _ (Kd.C_alloc (Kd.C_alloc HN1.out _) _) Hn1.out (Kd.C_alloc (Kd.C_alloc HP1.out _) _) Hp1.out hx1 (by decide) hx2 (by decide) hf).mono ?_
  rintro e u1 ⟨rfl, hb⟩
  replace hb := below_step hz hb
  replace HL := Aside0.mk (Kd.C_below HL.out hb)
  replace HN1 := Aside0.mk (Kd.C_below HN1.out hb)
  replace HP1 := Aside0.mk (Kd.C_below HP1.out hb)
  replace HN2 := Aside0.mk (Kd.C_below HN2.out hb)
  replace HP2 := Aside0.mk (Kd.C_below HP2.out hb)
  replace HN3 := Aside0.mk (Kd.C_below HN3.out hb)
  replace HP3 := Aside0.mk (Kd.C_below HP3.out hb)
  replace HN4 := Aside0.mk (Kd.C_below HN4.out hb)
  replace HP4 := Aside0.mk (Kd.C_below HP4.out hb)
  replace BK1 := Aside0.mk ((hb.block _ (blk_lt BK1.out)).trans BK1.out)
  replace BK2 := Aside0.mk ((hb.block _ (blk_lt BK2.out)).trans BK2.out)
  replace BK3 := Aside0.mk ((hb.block _ (blk_lt BK3.out)).trans BK3.out)
  replace BK4 := Aside0.mk ((hb.block _ (blk_lt BK4.out)).trans BK4.out)
  replace HB := Aside0.mk (below_step HB.out hb)
  have hcz2_0 := (blk_cell BK2.out 0).trans rfl; have hfz2_0 := blk_frozen BK2.out 0; have hcz2_1 := (blk_cell BK2.out 1).trans rfl; have hfz2_1 := blk_frozen BK2.out 1; have hcz2_2 := (blk_cell BK2.out 2).trans rfl; have hfz2_2 := blk_frozen BK2.out 2; have hcz2_3 := (blk_cell BK2.out 3).trans rfl; have hfz2_3 := blk_frozen BK2.out 3
  clear hx1 hx2 hz hf hb
  go_wp2_with fail
  have hx1 := Kd.C_alloc (C_lit9 u1 [⟨#[97]⟩] (by decide)) (Obj.cells (pw_strs [⟨#[98, 47]⟩]).toArray 9 (0,0))
  have hx2 := C_lit9b u1 (Obj.cells (pw_strs [⟨#[97]⟩]).toArray 9 (0,0)) [⟨#[98, 47]⟩] (by decide)
  have hz := below_alloc (below_alloc (Below.refl u1.heap.size u1) (Obj.cells (pw_strs [⟨#[97]⟩]).toArray 9 (0,0))) (Obj.cells (pw_strs [⟨#[98, 47]⟩]).toArray 9 (0,0))
  have hf := (show r20_Same.f 9 [⟨#[97]⟩] [⟨#[98, 47]⟩] ⟨#[98, 47]⟩ true [⟨#[97]⟩] [⟨#[98, 47]⟩] ⟨#[98, 47]⟩ true = some true by decide +kernel)
  refine (r20_Same.calls 9 An2 cn2 [⟨#[97]⟩] Ap2 cp2 [⟨#[98, 47]⟩] ⟨#[98, 47]⟩ true (some ⟨u1.heap.size, 0, none⟩) 1 [⟨#[97]⟩] (some ⟨u1.heap.size + 1, 0, none⟩) 1 [⟨#[98, 47]⟩] ⟨#[98, 47]⟩ true true _ (Kd.C_alloc (Kd.C_alloc HN2.out _) _) Hn2.out (Kd.C_alloc (Kd.C_alloc HP2.out _) _) Hp2.out hx1 (by decide) hx2 (by decide) hf).mono ?_
  rintro e u2 ⟨rfl, hb⟩
  replace hb := below_step hz hb
  replace HL := Aside0.mk (Kd.C_below HL.out hb)
  replace HN1 := Aside0.mk (Kd.C_below HN1.out hb)
  replace HP1 := Aside0.mk (Kd.C_below HP1.out hb)
  replace HN2 := Aside0.mk (Kd.C_below HN2.out hb)
  replace HP2 := Aside0.mk (Kd.C_below HP2.out hb)
  replace HN3 := Aside0.mk (Kd.C_below HN3.out hb)
  replace HP3 := Aside0.mk (Kd.C_below HP3.out hb)
  replace HN4 := Aside0.mk (Kd.C_below HN4.out hb)
  replace HP4 := Aside0.mk (Kd.C_below HP4.out hb)
  replace BK1 := Aside0.mk ((hb.block _ (blk_lt BK1.out)).trans BK1.out)
  replace BK2 := Aside0.mk ((hb.block _ (blk_lt BK2.out)).trans BK2.out)
  replace BK3 := Aside0.mk ((hb.block _ (blk_lt BK3.out)).trans BK3.out)
  replace BK4 := Aside0.mk ((hb.block _ (blk_lt BK4.out)).trans BK4.out)
  replace HB := Aside0.mk (below_step HB.out hb)
  have hcz3_0 := (blk_cell BK3.out 0).trans rfl; have hfz3_0 := blk_frozen BK3.out 0; have hcz3_1 := (blk_cell BK3.out 1).trans rfl; have hfz3_1 := blk_frozen BK3.out 1; have hcz3_2 := (blk_cell BK3.out 2).trans rfl; have hfz3_2 := blk_frozen BK3.out 2; have hcz3_3 := (blk_cell BK3.out 3).trans rfl; have hfz3_3 := blk_frozen BK3.out 3
  clear hx1 hx2 hz hf hb
  go_wp2_with fail
  have hx1 := C_lit9 u2 [⟨#[99]⟩] (by decide)
  have hz := below_alloc (Below.refl u2.heap.size u2) (Obj.cells (pw_strs [⟨#[99]⟩]).toArray 9 (0,0))
  have hf := (show r20_Same.f 9 [⟨#[99]⟩] [] ⟨#[]⟩ false [⟨#[99]⟩] [] ⟨#[]⟩ false = some true by decide +kernel)
  refine (r20_Same.calls 9 An3 cn3 [⟨#[99]⟩] Ap3 cp3 [] ⟨#[]⟩ false (some ⟨u2.heap.size, 0, none⟩) 1 [⟨#[99]⟩] none 0 [] ⟨#[]⟩ false true _ (Kd.C_alloc HN3.out _) Hn3.out (Kd.C_alloc HP3.out _) Hp3.out hx1 (by decide) (Kd.C_nil _ _) (by decide) hf).mono ?_
  rintro e u3 ⟨rfl, hb⟩
  replace hb := below_step hz hb
  replace HL := Aside0.mk (Kd.C_below HL.out hb)
  replace HN1 := Aside0.mk (Kd.C_below HN1.out hb)
  replace HP1 := Aside0.mk (Kd.C_below HP1.out hb)
  replace HN2 := Aside0.mk (Kd.C_below HN2.out hb)
  replace HP2 := Aside0.mk (Kd.C_below HP2.out hb)
  replace HN3 := Aside0.mk (Kd.C_below HN3.out hb)
  replace HP3 := Aside0.mk (Kd.C_below HP3.out hb)
  replace HN4 := Aside0.mk (Kd.C_below HN4.out hb)
  replace HP4 := Aside0.mk (Kd.C_below HP4.out hb)
  replace BK1 := Aside0.mk ((hb.block _ (blk_lt BK1.out)).trans BK1.out)
  replace BK2 := Aside0.mk ((hb.block _ (blk_lt BK2.out)).trans BK2.out)
  replace BK3 := Aside0.mk ((hb.block _ (blk_lt BK3.out)).trans BK3.out)
  replace BK4 := Aside0.mk ((hb.block _ (blk_lt BK4.out)).trans BK4.out)
  replace HB := Aside0.mk (below_step HB.out hb)
  have hcz4_0 := (blk_cell BK4.out 0).trans rfl; have hfz4_0 := blk_frozen BK4.out 0; have hcz4_1 := (blk_cell BK4.out 1).trans rfl; have hfz4_1 := blk_frozen BK4.out 1; have hcz4_2 := (blk_cell BK4.out 2).trans rfl; have hfz4_2 := blk_frozen BK4.out 2; have hcz4_3 := (blk_cell BK4.out 3).trans rfl; have hfz4_3 := blk_frozen BK4.out 3
  clear hx1  hz hf hb
  go_wp2_with fail
  have hx1 := C_lit9 u3 [⟨#[99]⟩] (by decide)
  have hz := below_alloc (Below.refl u3.heap.size u3) (Obj.cells (pw_strs [⟨#[99]⟩]).toArray 9 (0,0))
  have hf := (show r20_Same.f 9 [⟨#[99]⟩] [] ⟨#[]⟩ false [⟨#[99]⟩] [] ⟨#[]⟩ false = some true by decide +kernel)
  refine (r20_Same.calls 9 An4 cn4 [⟨#[99]⟩] Ap4 cp4 [] ⟨#[]⟩ false (some ⟨u3.heap.size, 0, none⟩) 1 [⟨#[99]⟩] none 0 [] ⟨#[]⟩ false true _ (Kd.C_alloc HN4.out _) Hn4.out (Kd.C_alloc HP4.out _) Hp4.out hx1 (by decide) (Kd.C_nil _ _) (by decide) hf).mono ?_
  rintro e u4 ⟨rfl, hb⟩
  replace hb := below_step hz hb
  replace HL := Aside0.mk (Kd.C_below HL.out hb)
  replace HN1 := Aside0.mk (Kd.C_below HN1.out hb)
  replace HP1 := Aside0.mk (Kd.C_below HP1.out hb)
  replace HN2 := Aside0.mk (Kd.C_below HN2.out hb)
  replace HP2 := Aside0.mk (Kd.C_below HP2.out hb)
  replace HN3 := Aside0.mk (Kd.C_below HN3.out hb)
  replace HP3 := Aside0.mk (Kd.C_below HP3.out hb)
  replace HN4 := Aside0.mk (Kd.C_below HN4.out hb)
  replace HP4 := Aside0.mk (Kd.C_below HP4.out hb)
  replace BK1 := Aside0.mk ((hb.block _ (blk_lt BK1.out)).trans BK1.out)
  replace BK2 := Aside0.mk ((hb.block _ (blk_lt BK2.out)).trans BK2.out)
  replace BK3 := Aside0.mk ((hb.block _ (blk_lt BK3.out)).trans BK3.out)
  replace BK4 := Aside0.mk ((hb.block _ (blk_lt BK4.out)).trans BK4.out)
  replace HB := Aside0.mk (below_step HB.out hb)
  clear hx1  hz hf hb
  go_wp2_with fail
  refine (listing_Bucket.calls 20 ⟨#[97, 98]⟩ 15 _ (by decide +kernel)).mono ?_
  rintro e u ⟨rfl, ⟨nd, rfl⟩⟩
  go_wp2_with fail
  refine (listing_Bucket.calls 20 ⟨#[97, 45, 98]⟩ 0 _ (by decide +kernel)).mono ?_
  rintro e u ⟨rfl, ⟨nd, rfl⟩⟩
  go_wp2_with fail
  refine (listing_Bucket.calls 20 ⟨#[97, 45, 45]⟩ 15 _ (by decide +kernel)).mono ?_
  rintro e u ⟨rfl, ⟨nd, rfl⟩⟩
  go_wp2_with fail
  go_ret
  exact ⟨rfl, by repeat (first | exact HB.out | apply pw_below_drewN)⟩

end Go.Proofs.Ytbhmffbpbicilaa.P
