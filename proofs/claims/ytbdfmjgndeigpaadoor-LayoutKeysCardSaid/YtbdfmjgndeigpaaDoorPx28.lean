-- by xprint (this session's program over the kit's printer)
import Derived.Test.YtbdfmjgndeigpaaDoorPx0
import Derived.Test.YtbdfmjgndeigpaaDoorPx17
import Derived.Test.YtbdfmjgndeigpaaDoorPx27
namespace Go.Proofs.YtbdfmjgndeigpaaDoor.P
open Go.RowKit Go.Proofs.YtbdfmjgndeigpaaDoorW.PrintWords Go.Proofs.YtbdfmjgndeigpaaDoorW.PrintLast Go.Proofs.YtbdfmjgndeigpaaDoorW.PrintMore
attribute [local go_sem] max2_int min2_int max_two min_two max_three min_three max_four min_four   -- for this text's walks alone
set_option linter.unusedVariables false
set_option linter.unusedSimpArgs false

/-! ### ref02.first, by hand -/
def ftxt (t : List Int) : List Int → Nat → Option (List Int × Nat)
 | [], _ => none
 | c :: r, i => if c ≠ 0 then ftxt (t ++ [c]) r (i + 1) else
   match r with
   | [] => none
   | d :: q => if d = 1 then some (t, i + 2) else if d = 255 then ftxt (t ++ [0]) q (i + 2) else none
termination_by l => l.length
decreasing_by all_goals (simp; try omega)
theorem ftxt_nil (t : List Int) (i : Nat) : ftxt t [] i = none := by rw [ftxt.eq_def]
theorem ftxt_cons {c : Int} (h : c ≠ 0) (t r : List Int) (i : Nat) : ftxt t (c :: r) i = ftxt (t ++ [c]) r (i + 1) := by
 rw [ftxt.eq_def]
 exact if_pos h
theorem ftxt_0nil (t : List Int) (i : Nat) : ftxt t [0] i = none := by
 rw [ftxt.eq_def]
 exact if_neg (by simp)
theorem ftxt_0cons (d : Int) (t q : List Int) (i : Nat) : ftxt t (0 :: d :: q) i = if d = 1 then some (t, i + 2) else if d = 255 then ftxt (t ++ [0]) q (i + 2) else none := by
 rw [ftxt.eq_def]
 exact if_neg (by simp)
theorem drop_rd2 (l : List Int) (j : Nat) (h : j < l.length) : l.drop j = rd l (j : Int) :: l.drop (j + 1) := by
 rw [List.drop_eq_getElem_cons h]
 congr 1
 simp [rd, List.getD_eq_getElem?_getD, h]
def firstR (r : Option (List Int × Nat)) : Option (Int × Int × ByteArray × Int) := match r with | some (t, i) => some (1, 0, strOfNums t, (i : Int)) | none => some (0, 0, ⟨#[]⟩, 0)
def eightL (c : Int) (xs : List Int) : List Int :=
 let ys := if c = 4 then xs.map (fun c => 255 - c) else xs
 ys.set 0 (Go.bits .xor .u8 (ys.getD 0 0) 128)
def r02_first.f (k : Nat) (a0 : ByteArray) : Option (Int × Int × ByteArray × Int) :=
 if 1 ≤ a0.size ∧ a0.size ≤ 1000000 then
  (if bt a0 0 = 3 ∨ bt a0 0 = 4 then
   (if a0.size < 9 then some (0, 0, ⟨#[]⟩, 0) else (r01_Number.f k (strOfNums (eightL (bt a0 0) (bytesOf (a0.extract 1 9)))) 0 8).bind fun n => some (bt a0 0 - 1, n, ⟨#[]⟩, 9))
  else if bt a0 0 = 2 then firstR (ftxt [] ((bytesOf a0).drop 1) 1)
  else some (0, 0, ⟨#[]⟩, 0))
 else none
theorem r02_first.mono : ∀ a0 k, LeO (r02_first.f k a0) (r02_first.f (k + 1) a0) := by
 intro a0 k
 unfold r02_first.f
 exact LeO.ite (LeO.ite (LeO.ite (LeO.refl _) (LeO.bind (r01_Number.mono _ _ _ _) (fun _ => LeO.refl _))) (LeO.refl _)) (LeO.refl _)
set_option maxHeartbeats 8000000 in
set_option maxRecDepth 1000000 in
theorem r02_first.calls (k : Nat) (a0 : ByteArray) (r1 r2 : Int) (r3 : ByteArray) (r4 : Int) (w : World) (h : r02_first.f k a0 = some (r1, r2, r3, r4)) :
  Calls Tryd.prog 72 #[.string a0] w fun e w' => e = .returned (.tuple #[.agg #[.int .i64 r1, .int .i64 r2, .string r3], .int .i64 r4]) ∧ Below w.heap.size w w' := by
 unfold r02_first.f at h
 by_cases hs : 1 ≤ a0.size ∧ a0.size ≤ 1000000
 ·rw [if_pos hs] at h
  have hkl : 0 < a0.size := by omega
  have hsz := hs.2
  clear hs
  have hx : ∀ h : 0 < a0.size, ((a0[0]'h).toNat : Int) = bt a0 0 := bt_at a0 0
  generalize hcv : bt a0 0 = c at h hx
  have hcr := bt_range a0 0
  rw [hcv] at hcr
  have HC := Aside0.mk hcv
  clear hcv
  have HB := Aside0.mk (Below.refl w.heap.size w)
  by_cases c34 : c = 3 ∨ c = 4
  ·rw [if_pos c34] at h
   by_cases h9 : a0.size < 9
   ·rw [if_pos h9] at h
    have HX := Aside0.mk h
    have d9 : decide ((a0.size : Int) < 9) = true := decide_eq_true (by omega)
    have d9' : decide (a0.size < 9) = true := decide_eq_true h9
    clear h h9 hcr
    rcases c34 with rfl | rfl
    all_goals
     go_enter Tryd.func72, Tryd.ntmps72
     go_wp2_with (((with_reducible refine gate_dst (N := 2) rfl ?_); (try (refine gate_guard (by rfl) ?_; dsimp only)); refine box_event ?hg (N := 2) ?hd (cs := #[.int .i64 0, .int .i64 0, .string ⟨#[]⟩]) (t := 91) ?hr ?_; (case hd => rfl); (case hg => rfl); (case hr => (go_simp; done)); intro g0 hg0 w1 hbox hb; have B0 := Aside0.mk hbox; have HB1 := Aside0.mk hb; have GE0 := Aside0.mk (show w.heap.size ≤ g0 from by rw [hg0]; exact Nat.le_refl _); clear hbox hb hg0; have hcy0 := (blk_cell B0.out 0).trans rfl; have hcy1 := (blk_cell B0.out 1).trans rfl; have hcy2 := (blk_cell B0.out 2).trans rfl; have hfy0 := blk_frozen B0.out 0; have hfy1 := blk_frozen B0.out 1; have hfy2 := blk_frozen B0.out 2))
     refine bodyPost_ret (results_ct rfl _ _ g0 91 #[.int .i64 0, .int .i64 0, .string ⟨#[]⟩] (0, 0) _ rfl (blk_put (blk_put (blk_put B0.out 0 _ rfl) 1 _ rfl) 2 _ rfl) Tryd.underlying91 rfl (by kernel_rfl)) rfl ?_
     have HX := HX.out
     simp only [Option.some.injEq, Prod.mk.injEq] at HX
     obtain ⟨rfl, rfl, rfl, rfl⟩ := HX
     exact ⟨rfl, ((HB1.out.setCell GE0.out _).setCell GE0.out _).setCell GE0.out _⟩
   ·rw [if_neg h9] at h
    obtain ⟨n, hn, hr⟩ := Option.bind_eq_some_iff.mp h
    have HX := Aside0.mk hr
    have hes : (a0.extract 1 9).size = 8 := by rw [ByteArray.size_extract]; omega
    have hxl := bytesOf_length (a0.extract 1 9)
    rw [hes] at hxl
    have hra : ∀ x ∈ bytesOf (a0.extract 1 9), 0 ≤ x ∧ x ≤ 255 := fun x hx => bytesOf_range3 hx
    generalize hbe : bytesOf (a0.extract 1 9) = xs at hn hxl hra
    have d9 : decide ((a0.size : Int) < 9) = false := decide_eq_false (by omega)
    have d9' : decide (a0.size < 9) = false := decide_eq_false h9
    have hk9 : 9 ≤ a0.size := by omega
    clear h h9 hcr hr
    rcases c34 with rfl | rfl
    ·have HN := Aside0.mk hn
     clear hn
     go_enter Tryd.func72, Tryd.ntmps72
     go_upto_region 6 with (((with_reducible refine gate_dst (N := 2) rfl ?_); (try (refine gate_guard (by rfl) ?_; dsimp only)); refine box_event ?hg (N := 2) ?hd (cs := #[.int .i64 0, .int .i64 0, .string ⟨#[]⟩]) (t := 91) ?hr ?_; (case hd => rfl); (case hg => rfl); (case hr => (go_simp; done)); intro g0 hg0 w1 hbox hb; have B0 := Aside0.mk hbox; have HB1 := Aside0.mk hb; have GE0 := Aside0.mk (show w.heap.size ≤ g0 from by rw [hg0]; exact Nat.le_refl _); have GL0 := Aside0.mk (show g0 < w1.heap.size from blk_lt hbox); clear hbox hb hg0; have kb1 := print_bytes (P := Tryd.prog) 9 73 5 Tryd.underlying9 Tryd.underlying73 Tryd.underlying5 (a0.extract 1 9) w1; have hby := Byt.new w1 (a0.extract 1 9); have hB2 : Below w1.heap.size w1 (Lib.bytesWorld w1 5 (a0.extract 1 9)) := bytes_below (Below.refl _ _) (Nat.le_refl _) _ _; rw [hes] at kb1 hby; rw [hbe] at hby; generalize Lib.bytesWorld w1 5 (a0.extract 1 9) = w2 at kb1 hby hB2; have B2 := Aside0.mk (blk_below B0.out hB2); have HB2 := Aside0.mk (below_step HB1.out hB2); have HBY := Aside0.mk hby; generalize hg5 : w1.heap.size = g5 at kb1 hby HBY; have HG5 := Aside0.mk (show w.heap.size ≤ g5 ∧ g0 ≠ g5 from ⟨by rw [← hg5]; exact HB1.out.size, by rw [← hg5]; have h_ := GL0.out; omega⟩); clear hg5 hby hB2 B0 HB1 GL0))
     go_wp2
     go_loopw [6] (fun i wr => i = .int .i64 0 ∧ wr = w2) (fun _ _ => 0)
     case atStart => exact ⟨rfl, rfl⟩
     case round =>
      obtain ⟨rfl, rfl⟩ := hrel
      have hc0 := HBY.out.cell 0 (by omega)
      have hf0 := HBY.out.fr 0 (by omega)
      have hx0 := hra _ (getD_mem (xs := xs) (j := 0) (by omega))
      have hBY2 := HBY.out.set 0 (by omega) (Go.bits .xor .u8 (xs.getD 0 0) 128)
      have hzs : eightL 3 xs = xs.set 0 (Go.bits .xor .u8 (xs.getD 0 0) 128) := rfl
      rw [← hzs] at hBY2
      generalize hX : xs.getD 0 0 = x0 at hc0 hx0 hBY2
      have HBY2 := Aside0.mk hBY2
      clear hzs hBY2
      have hx0' := hx0.1
      have hx0'' := hx0.2
      clear hX
      go_upto_region 11 with (fail)
      have B3 := Aside0.mk (show (wr.setCell ⟨g5, 0, none⟩ (.int .u8 (Go.bits .xor .u8 x0 128))).heap[g0]? = _ from blk_far B2.out HG5.out.2 _)
      have HB3 := Aside0.mk (HB2.out.setCell HG5.out.1 (.int .u8 (Go.bits .xor .u8 x0 128)) (p := ⟨g5, 0, none⟩))
      have HBY3 := HBY2
      clear B2 HB2 HBY2 HBY hc0 hf0 hx0 hx0' hx0''
      generalize wr.setCell ⟨g5, 0, none⟩ (.int .u8 (Go.bits .xor .u8 x0 128)) = w3 at B3 HB3 HBY3 ⊢
      have HS4 := HBY3.out.drewN 1
      refine start_ (n := 10) (S := fun w' => Byt w' g5 8 (eightL 3 xs)) (ds := []) #[false, false, false, false, false, false, false, false, false, false] (by kernel_rfl) rfl rfl ⟨HBY3.out.len, HBY3.out.row⟩ (fun hHeld => ?_)
      have B4 := Aside0.mk (blk_drew B3.out)
      have HB4 := Aside0.mk (below_drew1 HB3.out)
      clear HS4 B3 HB3 HBY3
      generalize w3.drew = w4 at B4 HB4 hHeld ⊢
      refine pure_ (i := 0) (N := some 48) (v := ?_) (a' := ?_) #[true, false, false, false, false, false, false, false, false, false] rfl rfl (by kernel_rfl) (fun _ _ _ h => h) (Or.inl ⟨by rfl, ?_⟩) ?_ ?_
      rotate_left
      ·intro w'
       go_simp
       with_reducible rfl
      rotate_left
      ·simp only [Act.put, List.setIfInBounds_toArray, List.set_cons_zero, List.set_cons_succ, i64_w, i32_w]
       rfl
      refine pure_ (i := 1) (N := some 49) (v := ?_) (a' := ?_) #[true, true, false, false, false, false, false, false, false, false] rfl rfl (by kernel_rfl) (fun _ _ _ h => h) (Or.inl ⟨by rfl, ?_⟩) ?_ ?_
      rotate_left
      ·intro w'
       go_simp
       with_reducible rfl
      rotate_left
      ·simp only [Act.put, List.setIfInBounds_toArray, List.set_cons_zero, List.set_cons_succ, i64_w, i32_w]
       rfl
      refine pure_ (i := 2) (N := some 50) (v := ?_) (a' := ?_) #[true, true, true, false, false, false, false, false, false, false] rfl rfl (by kernel_rfl) (fun _ _ _ h => h) (Or.inl ⟨by rfl, ?_⟩) ?_ ?_
      rotate_left
      ·intro w'
       go_simp
       with_reducible rfl
      rotate_left
      ·simp only [Act.put, List.setIfInBounds_toArray, List.set_cons_zero, List.set_cons_succ, i64_w, i32_w]
       rfl
      refine pure_ (i := 3) (N := some 51) (v := ?_) (a' := ?_) #[true, true, true, true, false, false, false, false, false, false] rfl rfl (by kernel_rfl) (fun _ _ _ h => h) (Or.inl ⟨by rfl, ?_⟩) ?_ ?_
      rotate_left
      ·intro w'
       go_simp
       with_reducible rfl
      rotate_left
      ·simp only [Act.put, List.setIfInBounds_toArray, List.set_cons_zero, List.set_cons_succ, i64_w, i32_w]
       rfl
      refine pure_ (i := 4) (N := some 52) (v := ?_) (a' := ?_) #[true, true, true, true, true, false, false, false, false, false] rfl rfl (by kernel_rfl) (fun _ _ _ h => h) (Or.inl ⟨by rfl, ?_⟩) ?_ ?_
      rotate_left
      ·intro w'
       go_simp
       with_reducible rfl
      rotate_left
      ·simp only [Act.put, List.setIfInBounds_toArray, List.set_cons_zero, List.set_cons_succ, i64_w, i32_w]
       rfl
      refine take_ (i := 5) (N := some 53) (v := ?_) (a' := ?_) #[true, true, true, true, true, true, false, false, false, false] rfl rfl (by kernel_rfl) (fun _ _ _ h => h) (Or.inl ⟨by rfl, ?_⟩) hHeld ?_ ?_
      rotate_left
      ·intro w' hs_
       have hcs := string_of_reads (P := Tryd.prog) (c := grownCap w1 8 0 5) Tryd.underlying73 Tryd.underlying5 Tryd.underlying9 (Byt.reads hs_ (by omega))
       go_simp
       with_reducible rfl
      rotate_left
      ·simp only [Act.put, List.setIfInBounds_toArray, List.set_cons_zero, List.set_cons_succ, i64_w, i32_w]
       rfl
      refine one_ (i := 6) (N := some 54) #[true, true, true, true, true, true, true, false, false, false] rfl rfl (by kernel_rfl) (by decide) (fun K hK => ?_)
      refine goes_ Tryd.func45 (by kernel_rfl) rfl #[.string (strOfNums (eightL 3 xs)), .int .i64 0, .int .i64 8] (by rfl) rfl rfl (by (try simp only [List.map_toArray, List.map_cons, List.map_nil]); rfl) ?_
      with_reducible refine (r01_Number.calls k (strOfNums (eightL 3 xs)) 0 8 n _ HN.out).mono ?_
      rintro e w' ⟨rfl, ⟨nd, rfl⟩⟩
      refine ⟨_, rfl, ?_⟩
      refine hK.out _ _ (Byt.drewN hHeld nd) (fun hHeld => ?_)
      clear hK K
      have B5 := Aside0.mk (blk_drewN B4.out nd)
      have HB5 := Aside0.mk (pw_below_drewN HB4.out nd)
      clear B4 HB4
      generalize w4.drewN nd = w5 at B5 HB5 hHeld ⊢
      refine norm_ (a' := ?_) ?_ ?_
      rotate_left
      ·show Act.put _ (some 54) _ = _
       simp only [Act.put, List.setIfInBounds_toArray, List.set_cons_zero, List.set_cons_succ, i64_w, i32_w]
       rfl
      refine pure_ (i := 7) (N := some 55) (v := ?_) (a' := ?_) #[true, true, true, true, true, true, true, true, false, false] rfl rfl (by kernel_rfl) (fun _ _ _ h => h) (Or.inl ⟨by rfl, ?_⟩) ?_ ?_
      rotate_left
      ·intro w'
       go_simp
       with_reducible rfl
      rotate_left
      ·simp only [Act.put, List.setIfInBounds_toArray, List.set_cons_zero, List.set_cons_succ, i64_w, i32_w]
       rfl
      refine one_ (i := 8) (N := none) #[true, true, true, true, true, true, true, true, true, false] rfl rfl (by kernel_rfl) (by decide) (fun K hK => ?_)
      have hcy0 := (blk_cell B5.out 0).trans rfl
      have hcy1 := (blk_cell B5.out 1).trans rfl
      have hcy2 := (blk_cell B5.out 2).trans rfl
      have hfy0 := blk_frozen B5.out 0
      have hfy1 := blk_frozen B5.out 1
      have hfy2 := blk_frozen B5.out 2
      refine skip_ (w1 := ?_) (by rfl) rfl ?_ ?_
      rotate_left
      ·go_simp
       rfl
      have hne := HG5.out.2
      refine hK.out _ _ ⟨hHeld.len, by
       obtain ⟨cs_, m_, hb_, hm_, hc_⟩ := hHeld.row
       refine ⟨cs_, m_, ?_, hm_, hc_⟩
       rw [Below.heap_setCell _ _ _ _ (by exact fun e => hne e.symm), Below.heap_setCell _ _ _ _ (by exact fun e => hne e.symm), Below.heap_setCell _ _ _ _ (by exact fun e => hne e.symm)]
       exact hb_⟩ (fun hHeld => ?_)
      clear hK K hne
      refine pure_ (i := 9) (N := some 3) (v := ?_) (a' := ?_) #[true, true, true, true, true, true, true, true, true, true] rfl rfl (by kernel_rfl) (fun _ _ _ h => h) (Or.inl ⟨by rfl, ?_⟩) ?_ ?_
      rotate_left
      ·intro w'
       go_simp
       with_reducible rfl
      rotate_left
      ·simp only [Act.put, List.setIfInBounds_toArray, List.set_cons_zero, List.set_cons_succ, i64_w, i32_w]
       rfl
      refine done_ (by kernel_rfl) ?_
      clear hHeld
      go_wp2
      refine bodyPost_ret (results_ct rfl _ _ g0 91 #[.int .i64 2, .int .i64 n, .string ⟨#[]⟩] (0, 0) _ rfl (blk_put (blk_put (blk_put B5.out 0 _ rfl) 1 _ rfl) 2 _ (by simp [wrap64])) Tryd.underlying91 rfl (by kernel_rfl)) rfl ?_
      have HX := HX.out
      simp only [Option.some.injEq, Prod.mk.injEq] at HX
      obtain ⟨rfl, rfl, rfl, rfl⟩ := HX
      exact ⟨rfl, ((HB5.out.setCell GE0.out _).setCell GE0.out _).setCell GE0.out _⟩

    ·have HN := Aside0.mk hn
     clear hn
     go_enter Tryd.func72, Tryd.ntmps72
     go_upto_region 6 with (((with_reducible refine gate_dst (N := 2) rfl ?_); (try (refine gate_guard (by rfl) ?_; dsimp only)); refine box_event ?hg (N := 2) ?hd (cs := #[.int .i64 0, .int .i64 0, .string ⟨#[]⟩]) (t := 91) ?hr ?_; (case hd => rfl); (case hg => rfl); (case hr => (go_simp; done)); intro g0 hg0 w1 hbox hb; have B0 := Aside0.mk hbox; have HB1 := Aside0.mk hb; have GE0 := Aside0.mk (show w.heap.size ≤ g0 from by rw [hg0]; exact Nat.le_refl _); have GL0 := Aside0.mk (show g0 < w1.heap.size from blk_lt hbox); clear hbox hb hg0; have kb1 := print_bytes (P := Tryd.prog) 9 73 5 Tryd.underlying9 Tryd.underlying73 Tryd.underlying5 (a0.extract 1 9) w1; have hby := Byt.new w1 (a0.extract 1 9); have hB2 : Below w1.heap.size w1 (Lib.bytesWorld w1 5 (a0.extract 1 9)) := bytes_below (Below.refl _ _) (Nat.le_refl _) _ _; rw [hes] at kb1 hby; rw [hbe] at hby; generalize Lib.bytesWorld w1 5 (a0.extract 1 9) = w2 at kb1 hby hB2; have B2 := Aside0.mk (blk_below B0.out hB2); have HB2 := Aside0.mk (below_step HB1.out hB2); have HBY := Aside0.mk hby; generalize hg5 : w1.heap.size = g5 at kb1 hby HBY; have HG5 := Aside0.mk (show w.heap.size ≤ g5 ∧ g0 ≠ g5 from ⟨by rw [← hg5]; exact HB1.out.size, by rw [← hg5]; have h_ := GL0.out; omega⟩); clear hg5 hby hB2 B0 HB1 GL0))
     have HBY0 := Aside0.mk (show Byt w2 g5 8 (flipK xs 0) from HBY.out)
     clear HBY
     go_wp2
     go_loopw [6] (fun i wr => ∃ k : Nat, i = .int .i64 k ∧ k ≤ 8 ∧ Byt wr g5 8 (flipK xs k) ∧ wr.heap[g0]? = some (.cells #[.int .i64 0, .int .i64 0, .string ⟨#[]⟩] 91 (0, 0)) ∧ Below w.heap.size w wr) (fun i _ => 8 - (intOf i).toNat)
     case atStart => exact ⟨0, rfl, Nat.zero_le _, HBY0.out, B2.out, HB2.out⟩
     case round =>
      clear HBY0 B2 HB2 kb1
      obtain ⟨k_, rfl, hk, hbk, hb0, hBk⟩ := hrel
      by_cases hlt : k_ < 8
      ·have hc := hbk.cell k_ hlt
       have hf := hbk.fr k_ hlt
       have hkx : k_ < xs.length := by omega
       rw [flipK_get hkx] at hc
       have hst := flipK_step hkx
       have hx' := hra _ (getD_mem hkx)
       have HBY2 := Aside0.mk (hbk.set k_ hlt (255 - xs.getD k_ 0))
       rw [hst] at HBY2
       have HB0 := Aside0.mk hb0
       have HBK := Aside0.mk hBk
       clear hbk hBk hst hkx hb0
       generalize xs.getD k_ 0 = x at hc hx' HBY2
       have hx0 := hx'.1
       have hx1 := hx'.2
       go_wp2
       go_roundw
       case rel => exact ⟨k_ + 1, by go_num, by omega, HBY2.out, blk_far HB0.out HG5.out.2 _, HBK.out.setCell HG5.out.1 _⟩
       case measure => simp [intOf]; omega
      ·obtain rfl : k_ = 8 := by omega
       have e : flipK xs 8 = xs.map (fun c => 255 - c) := by rw [← hxl]; exact flipK_all
       rw [e] at hbk
       have hra2 : ∀ x ∈ xs.map (fun c => 255 - c), 0 ≤ x ∧ x ≤ 255 := by
        intro x hx2
        obtain ⟨y, hy, rfl⟩ := List.mem_map.1 hx2
        have := hra y hy
        omega
       have hxl2 : (xs.map (fun c => 255 - c)).length = 8 := by rw [List.length_map]; exact hxl
       have hc0 := hbk.cell 0 (by omega)
       have hf0 := hbk.fr 0 (by omega)
       have hx0 := hra2 _ (getD_mem (xs := xs.map (fun c => 255 - c)) (j := 0) (by omega))
       have hBY2 := hbk.set 0 (by omega) (Go.bits .xor .u8 ((xs.map (fun c => 255 - c)).getD 0 0) 128)
       have hzs : eightL 4 xs = (xs.map (fun c => 255 - c)).set 0 (Go.bits .xor .u8 ((xs.map (fun c => 255 - c)).getD 0 0) 128) := rfl
       rw [← hzs] at hBY2
       generalize hX : (xs.map (fun c => 255 - c)).getD 0 0 = x0 at hc0 hx0 hBY2
       have HBY3 := Aside0.mk hBY2
       have hx0' := hx0.1
       have hx0'' := hx0.2
       have B2 := Aside0.mk hb0
       have HB2 := Aside0.mk hBk
       clear hzs hBY2 hX hbk e hra2 hxl2 hb0 hBk
       have dl : decide (((8 : Nat) : Int) < 8) = false := by decide
       go_upto_region 11 with (fail)
       have B3 := Aside0.mk (show (wr.setCell ⟨g5, 0, none⟩ (.int .u8 (Go.bits .xor .u8 x0 128))).heap[g0]? = _ from blk_far B2.out HG5.out.2 _)
       have HB3 := Aside0.mk (HB2.out.setCell HG5.out.1 (.int .u8 (Go.bits .xor .u8 x0 128)) (p := ⟨g5, 0, none⟩))
       clear B2 HB2 hc0 hf0 hx0 hx0' hx0''
       generalize wr.setCell ⟨g5, 0, none⟩ (.int .u8 (Go.bits .xor .u8 x0 128)) = w3 at B3 HB3 HBY3 ⊢
       have HS4 := HBY3.out.drewN 1
       refine start_ (n := 10) (S := fun w' => Byt w' g5 8 (eightL 4 xs)) (ds := []) #[false, false, false, false, false, false, false, false, false, false] (by kernel_rfl) rfl rfl ⟨HBY3.out.len, HBY3.out.row⟩ (fun hHeld => ?_)
       have B4 := Aside0.mk (blk_drew B3.out)
       have HB4 := Aside0.mk (below_drew1 HB3.out)
       clear HS4 B3 HB3 HBY3
       generalize w3.drew = w4 at B4 HB4 hHeld ⊢
       refine pure_ (i := 0) (N := some 48) (v := ?_) (a' := ?_) #[true, false, false, false, false, false, false, false, false, false] rfl rfl (by kernel_rfl) (fun _ _ _ h => h) (Or.inl ⟨by rfl, ?_⟩) ?_ ?_
       rotate_left
       ·intro w'
        go_simp
        with_reducible rfl
       rotate_left
       ·simp only [Act.put, List.setIfInBounds_toArray, List.set_cons_zero, List.set_cons_succ, i64_w, i32_w]
        rfl
       refine pure_ (i := 1) (N := some 49) (v := ?_) (a' := ?_) #[true, true, false, false, false, false, false, false, false, false] rfl rfl (by kernel_rfl) (fun _ _ _ h => h) (Or.inl ⟨by rfl, ?_⟩) ?_ ?_
       rotate_left
       ·intro w'
        go_simp
        with_reducible rfl
       rotate_left
       ·simp only [Act.put, List.setIfInBounds_toArray, List.set_cons_zero, List.set_cons_succ, i64_w, i32_w]
        rfl
       refine pure_ (i := 2) (N := some 50) (v := ?_) (a' := ?_) #[true, true, true, false, false, false, false, false, false, false] rfl rfl (by kernel_rfl) (fun _ _ _ h => h) (Or.inl ⟨by rfl, ?_⟩) ?_ ?_
       rotate_left
       ·intro w'
        go_simp
        with_reducible rfl
       rotate_left
       ·simp only [Act.put, List.setIfInBounds_toArray, List.set_cons_zero, List.set_cons_succ, i64_w, i32_w]
        rfl
       refine pure_ (i := 3) (N := some 51) (v := ?_) (a' := ?_) #[true, true, true, true, false, false, false, false, false, false] rfl rfl (by kernel_rfl) (fun _ _ _ h => h) (Or.inl ⟨by rfl, ?_⟩) ?_ ?_
       rotate_left
       ·intro w'
        go_simp
        with_reducible rfl
       rotate_left
       ·simp only [Act.put, List.setIfInBounds_toArray, List.set_cons_zero, List.set_cons_succ, i64_w, i32_w]
        rfl
       refine pure_ (i := 4) (N := some 52) (v := ?_) (a' := ?_) #[true, true, true, true, true, false, false, false, false, false] rfl rfl (by kernel_rfl) (fun _ _ _ h => h) (Or.inl ⟨by rfl, ?_⟩) ?_ ?_
       rotate_left
       ·intro w'
        go_simp
        with_reducible rfl
       rotate_left
       ·simp only [Act.put, List.setIfInBounds_toArray, List.set_cons_zero, List.set_cons_succ, i64_w, i32_w]
        rfl
       refine take_ (i := 5) (N := some 53) (v := ?_) (a' := ?_) #[true, true, true, true, true, true, false, false, false, false] rfl rfl (by kernel_rfl) (fun _ _ _ h => h) (Or.inl ⟨by rfl, ?_⟩) hHeld ?_ ?_
       rotate_left
       ·intro w' hs_
        have hcs := string_of_reads (P := Tryd.prog) (c := grownCap w1 8 0 5) Tryd.underlying73 Tryd.underlying5 Tryd.underlying9 (Byt.reads hs_ (by omega))
        go_simp
        with_reducible rfl
       rotate_left
       ·simp only [Act.put, List.setIfInBounds_toArray, List.set_cons_zero, List.set_cons_succ, i64_w, i32_w]
        rfl
       refine one_ (i := 6) (N := some 54) #[true, true, true, true, true, true, true, false, false, false] rfl rfl (by kernel_rfl) (by decide) (fun K hK => ?_)
       refine goes_ Tryd.func45 (by kernel_rfl) rfl #[.string (strOfNums (eightL 4 xs)), .int .i64 0, .int .i64 8] (by rfl) rfl rfl (by (try simp only [List.map_toArray, List.map_cons, List.map_nil]); rfl) ?_
       with_reducible refine (r01_Number.calls k (strOfNums (eightL 4 xs)) 0 8 n _ HN.out).mono ?_
       rintro e w' ⟨rfl, ⟨nd, rfl⟩⟩
       refine ⟨_, rfl, ?_⟩
       refine hK.out _ _ (Byt.drewN hHeld nd) (fun hHeld => ?_)
       clear hK K
       have B5 := Aside0.mk (blk_drewN B4.out nd)
       have HB5 := Aside0.mk (pw_below_drewN HB4.out nd)
       clear B4 HB4
       generalize w4.drewN nd = w5 at B5 HB5 hHeld ⊢
       refine norm_ (a' := ?_) ?_ ?_
       rotate_left
       ·show Act.put _ (some 54) _ = _
        simp only [Act.put, List.setIfInBounds_toArray, List.set_cons_zero, List.set_cons_succ, i64_w, i32_w]
        rfl
       refine pure_ (i := 7) (N := some 55) (v := ?_) (a' := ?_) #[true, true, true, true, true, true, true, true, false, false] rfl rfl (by kernel_rfl) (fun _ _ _ h => h) (Or.inl ⟨by rfl, ?_⟩) ?_ ?_
       rotate_left
       ·intro w'
        go_simp
        with_reducible rfl
       rotate_left
       ·simp only [Act.put, List.setIfInBounds_toArray, List.set_cons_zero, List.set_cons_succ, i64_w, i32_w]
        rfl
       refine one_ (i := 8) (N := none) #[true, true, true, true, true, true, true, true, true, false] rfl rfl (by kernel_rfl) (by decide) (fun K hK => ?_)
       have hcy0 := (blk_cell B5.out 0).trans rfl
       have hcy1 := (blk_cell B5.out 1).trans rfl
       have hcy2 := (blk_cell B5.out 2).trans rfl
       have hfy0 := blk_frozen B5.out 0
       have hfy1 := blk_frozen B5.out 1
       have hfy2 := blk_frozen B5.out 2
       refine skip_ (w1 := ?_) (by rfl) rfl ?_ ?_
       rotate_left
       ·go_simp
        rfl
       have hne := HG5.out.2
       refine hK.out _ _ ⟨hHeld.len, by
        obtain ⟨cs_, m_, hb_, hm_, hc_⟩ := hHeld.row
        refine ⟨cs_, m_, ?_, hm_, hc_⟩
        rw [Below.heap_setCell _ _ _ _ (by exact fun e => hne e.symm), Below.heap_setCell _ _ _ _ (by exact fun e => hne e.symm), Below.heap_setCell _ _ _ _ (by exact fun e => hne e.symm)]
        exact hb_⟩ (fun hHeld => ?_)
       clear hK K hne
       refine pure_ (i := 9) (N := some 3) (v := ?_) (a' := ?_) #[true, true, true, true, true, true, true, true, true, true] rfl rfl (by kernel_rfl) (fun _ _ _ h => h) (Or.inl ⟨by rfl, ?_⟩) ?_ ?_
       rotate_left
       ·intro w'
        go_simp
        with_reducible rfl
       rotate_left
       ·simp only [Act.put, List.setIfInBounds_toArray, List.set_cons_zero, List.set_cons_succ, i64_w, i32_w]
        rfl
       refine done_ (by kernel_rfl) ?_
       clear hHeld
       go_wp2
       refine bodyPost_ret (results_ct rfl _ _ g0 91 #[.int .i64 3, .int .i64 n, .string ⟨#[]⟩] (0, 0) _ rfl (blk_put (blk_put (blk_put B5.out 0 _ rfl) 1 _ rfl) 2 _ (by simp [wrap64])) Tryd.underlying91 rfl (by kernel_rfl)) rfl ?_
       have HX := HX.out
       simp only [Option.some.injEq, Prod.mk.injEq] at HX
       obtain ⟨rfl, rfl, rfl, rfl⟩ := HX
       exact ⟨rfl, ((HB5.out.setCell GE0.out _).setCell GE0.out _).setCell GE0.out _⟩

  ·rw [if_neg c34] at h
   by_cases c2 : c = 2
   ·rw [if_pos c2] at h
    subst c2
    clear hcr c34
    have hbl := bytesOf_length a0
    generalize hres : ftxt [] ((bytesOf a0).drop 1) 1 = res at h
    have HX := Aside0.mk h
    have HF := Aside0.mk hres
    clear h hres
    go_enter Tryd.func72, Tryd.ntmps72
    go_wp2_with (((with_reducible refine gate_dst (N := 2) rfl ?_); (try (refine gate_guard (by rfl) ?_; dsimp only)); refine box_event ?hg (N := 2) ?hd (cs := #[.int .i64 0, .int .i64 0, .string ⟨#[]⟩]) (t := 91) ?hr ?_; (case hd => rfl); (case hg => rfl); (case hr => (go_simp; done)); intro g0 hg0 w1 hbox hb; have B0 := Aside0.mk hbox; have HB1 := Aside0.mk hb; have GE0 := Aside0.mk (show w.heap.size ≤ g0 from by rw [hg0]; exact Nat.le_refl _); clear hbox hb hg0))
    go_loopw [7, 8] (fun v i wr => ∃ (k_ : Nat) (t : List Int) (v7 : Value), i = .int .i64 k_ ∧ v7 = v ∧ k_ ≤ a0.size ∧ t.length ≤ k_ ∧ ftxt t ((bytesOf a0).drop k_) k_ = res ∧ Kd.R (Kd.int .u8) 5 wr w.heap.size (fun _ => True) v7 t ∧ wr.heap[g0]? = some (.cells #[.int .i64 0, .int .i64 0, .string ⟨#[]⟩] 91 (0, 0)) ∧ Below w.heap.size w wr) (fun _ i _ => a0.size - (intOf i).toNat)
    case atStart => exact ⟨1, [], .slice none 0 0, rfl, rfl, by omega, by simp, HF.out, Kd.R_nil _ _ _ _ _, B0.out, HB1.out⟩
    case round =>
     clear HF B0 HB1
     obtain ⟨k_, t, v7, rfl, rfl, hk, htl, hf, ht, hb0, hBk⟩ := hrel
     have HT := Aside0.mk ht
     have B2 := Aside0.mk hb0
     have HB2 := Aside0.mk hBk
     clear ht hb0 hBk
     by_cases hlt : k_ < a0.size
     ·have hxk : ∀ h : k_ < a0.size, ((a0[k_]'h).toNat : Int) = bt a0 k_ := fun h => by have h_ := bt_at a0 (k_ : Int) (by rw [Int.toNat_natCast]; exact h); simpa using h_
      have hdr := drop_rd2 (bytesOf a0) k_ (by omega)
      rw [rd_bytesOf] at hdr
      generalize bt a0 (k_ : Int) = c at hxk hdr
      by_cases c0 : c = 0
      ·subst c0
       by_cases hk1 : k_ + 1 = a0.size
       ·have e : (bytesOf a0).drop (k_ + 1) = [] := List.drop_eq_nil_of_le (by omega)
        rw [hdr, e, ftxt_0nil] at hf
        have HX2 := Aside0.mk (show some ((0 : Int), (0 : Int), (⟨#[]⟩ : ByteArray), (0 : Int)) = some (r1, r2, r3, r4) from by have h_ := HX.out; rw [← hf] at h_; exact h_)
        have d5 : decide ((k_ : Int) + 1 = (a0.size : Int)) = true := decide_eq_true (by omega)
        have d6 : ((k_ : Int) + 1 == (a0.size : Int)) = true := beq_iff_eq.mpr (by omega)
        clear hf e hdr hk1 HX
        have hcy0 := (blk_cell B2.out 0).trans rfl
        have hfy0 := blk_frozen B2.out 0
        have hcy1 := (blk_cell B2.out 1).trans rfl
        have hfy1 := blk_frozen B2.out 1
        have hcy2 := (blk_cell B2.out 2).trans rfl
        have hfy2 := blk_frozen B2.out 2
        go_wp2
        refine bodyPost_ret (results_ct rfl _ _ g0 91 #[.int .i64 0, .int .i64 0, .string ⟨#[]⟩] (0, 0) _ rfl (blk_put (blk_put (blk_put B2.out 0 _ rfl) 1 _ rfl) 2 _ rfl) Tryd.underlying91 rfl (by kernel_rfl)) rfl ?_
        have HX := HX2.out
        simp only [Option.some.injEq, Prod.mk.injEq] at HX
        obtain ⟨rfl, rfl, rfl, rfl⟩ := HX
        exact ⟨rfl, ((HB2.out.setCell GE0.out _).setCell GE0.out _).setCell GE0.out _⟩
       ·have hkl1 : k_ + 1 < a0.size := by omega
        have hx1 : ∀ h : k_ + 1 < a0.size, ((a0[k_ + 1]'h).toNat : Int) = bt a0 ((k_ + 1 : Nat) : Int) := fun h => by have h_ := bt_at a0 ((k_ + 1 : Nat) : Int) (by rw [Int.toNat_natCast]; exact h); simpa using h_
        have hdr1 := drop_rd2 (bytesOf a0) (k_ + 1) (by omega)
        rw [rd_bytesOf] at hdr1
        generalize bt a0 ((k_ + 1 : Nat) : Int) = d at hx1 hdr1
        rw [hdr, hdr1, ftxt_0cons] at hf
        have d5 : decide ((k_ : Int) + 1 = (a0.size : Int)) = false := decide_eq_false (by omega)
        have d6 : ((k_ : Int) + 1 == (a0.size : Int)) = false := beq_eq_false_iff_ne.mpr (by omega)
        clear hk1 hdr hdr1
        by_cases e1 : d = 1
        ·rw [if_pos e1] at hf
         subst e1
         have HX2 := Aside0.mk (show some ((1 : Int), (0 : Int), strOfNums t, ((k_ + 2 : Nat) : Int)) = some (r1, r2, r3, r4) from by have h_ := HX.out; rw [← hf] at h_; exact h_)
         obtain ⟨A5, c5, hv5, _, hK5⟩ := Kd.R_reads HT.out
         have hcs := Kd.C_string (P := Tryd.prog) (c := c5) Tryd.underlying73 Tryd.underlying5 Tryd.underlying9 hK5
         subst hv5
         clear hf HX hK5
         have hcy0 := (blk_cell B2.out 0).trans rfl
         have hfy0 := blk_frozen B2.out 0
         have hcy1 := (blk_cell B2.out 1).trans rfl
         have hfy1 := blk_frozen B2.out 1
         have hcy2 := (blk_cell B2.out 2).trans rfl
         have hfy2 := blk_frozen B2.out 2
         go_wp2
         refine bodyPost_ret (results_ct rfl _ _ g0 91 #[.int .i64 1, .int .i64 0, .string (strOfNums t)] (0, 0) _ rfl (blk_put (blk_put (blk_put B2.out 0 _ rfl) 1 _ rfl) 2 _ rfl) Tryd.underlying91 rfl (by kernel_rfl)) rfl ?_
         have HX := HX2.out
         simp only [Option.some.injEq, Prod.mk.injEq] at HX
         obtain ⟨rfl, rfl, rfl, rfl⟩ := HX
         exact ⟨by rfl, ((HB2.out.setCell GE0.out _).setCell GE0.out _).setCell GE0.out _⟩
        ·rw [if_neg e1] at hf
         have f1 : (d == 1) = false := beq_eq_false_iff_ne.mpr e1
         have f1' : (d != 1) = true := bne_iff_ne.mpr e1
         clear e1
         by_cases e255 : d = 255
         ·rw [if_pos e255] at hf
          subst e255
          have HF := Aside0.mk hf
          clear hf
          go_wp2_with ((with_reducible refine gate_builtin (b := .append) (xs := #[.tmp 106, .tmp 107]) rfl ?_); at_builtin; refine Kd.R_append (Kd.int .u8) (w0 := w) w.heap.size rfl (.tmp 106) (.tmp 107) 73 5 (.int .u8 0) 1 rfl Tryd.underlying73 info5 rfl (by decide) (by omega) v7 t (0) [.int .u8 (0)] (fun _ => True) (fun _ => False) rfl rfl ?aP (fun _ hk => hk.elim) ?aF ?aO ?aB ?aS ?aL ?_; (case aP => exact rfl); (case aB => exact HB2.out); (case aF => exact (fun _ _ => trivial)); (case aO => exact HT.out); (case aS => exact HB2.out.size); (case aL => omega); intro v_ w_ ho hb hg hat; have HO1 := Aside0.mk ho; have HB3 := Aside0.mk hb; have B3 := Aside0.mk (blk_grown B2.out hg (Kd.R_ne HT.out B2.out (by decide))); clear ho hb hg hat)
          go_roundw
          case rel => exact ⟨k_ + 2, t ++ [0], v_, by rfl, rfl, by omega, by simp; omega, HF.out, HO1.out, B3.out, HB3.out⟩
          case measure => simp [intOf]; omega
         ·rw [if_neg e255] at hf
          have HX2 := Aside0.mk (show some ((0 : Int), (0 : Int), (⟨#[]⟩ : ByteArray), (0 : Int)) = some (r1, r2, r3, r4) from by have h_ := HX.out; rw [← hf] at h_; exact h_)
          have f2 : (d == 255) = false := beq_eq_false_iff_ne.mpr e255
          have f2' : (d != 255) = true := bne_iff_ne.mpr e255
          clear hf HX e255
          have hcy0 := (blk_cell B2.out 0).trans rfl
          have hfy0 := blk_frozen B2.out 0
          have hcy1 := (blk_cell B2.out 1).trans rfl
          have hfy1 := blk_frozen B2.out 1
          have hcy2 := (blk_cell B2.out 2).trans rfl
          have hfy2 := blk_frozen B2.out 2
          go_wp2
          refine bodyPost_ret (results_ct rfl _ _ g0 91 #[.int .i64 0, .int .i64 0, .string ⟨#[]⟩] (0, 0) _ rfl (blk_put (blk_put (blk_put B2.out 0 _ rfl) 1 _ rfl) 2 _ rfl) Tryd.underlying91 rfl (by kernel_rfl)) rfl ?_
          have HX := HX2.out
          simp only [Option.some.injEq, Prod.mk.injEq] at HX
          obtain ⟨rfl, rfl, rfl, rfl⟩ := HX
          exact ⟨rfl, ((HB2.out.setCell GE0.out _).setCell GE0.out _).setCell GE0.out _⟩
      ·rw [hdr, ftxt_cons c0] at hf
       have HF := Aside0.mk hf
       have f1 : (c != 0) = true := bne_iff_ne.mpr c0
       have f2 : (c == 0) = false := beq_eq_false_iff_ne.mpr c0
       clear hf hdr c0
       go_wp2_with ((with_reducible refine gate_builtin (b := .append) (xs := #[.tmp 70, .tmp 74]) rfl ?_); at_builtin; refine Kd.R_append (Kd.int .u8) (w0 := w) w.heap.size rfl (.tmp 70) (.tmp 74) 73 5 (.int .u8 0) 1 rfl Tryd.underlying73 info5 rfl (by decide) (by omega) v7 t (c) [.int .u8 (c)] (fun _ => True) (fun _ => False) rfl rfl ?aP (fun _ hk => hk.elim) ?aF ?aO ?aB ?aS ?aL ?_; (case aP => exact rfl); (case aB => exact HB2.out); (case aF => exact (fun _ _ => trivial)); (case aO => exact HT.out); (case aS => exact HB2.out.size); (case aL => omega); intro v_ w_ ho hb hg hat; have HO1 := Aside0.mk ho; have HB3 := Aside0.mk hb; have B3 := Aside0.mk (blk_grown B2.out hg (Kd.R_ne HT.out B2.out (by decide))); clear ho hb hg hat)
       go_roundw
       case rel => exact ⟨k_ + 1, t ++ [c], v_, by rfl, rfl, by omega, by simp; omega, HF.out, HO1.out, B3.out, HB3.out⟩
       case measure => simp [intOf]; omega
     ·have e : (bytesOf a0).drop k_ = [] := List.drop_eq_nil_of_le (by omega)
      rw [e, ftxt_nil] at hf
      have HX2 := Aside0.mk (show some ((0 : Int), (0 : Int), (⟨#[]⟩ : ByteArray), (0 : Int)) = some (r1, r2, r3, r4) from by have h_ := HX.out; rw [← hf] at h_; exact h_)
      have dl : decide ((k_ : Int) < (a0.size : Int)) = false := decide_eq_false (by omega)
      have dl2 : decide (k_ < a0.size) = false := decide_eq_false hlt
      clear hf e HX
      have hcy0 := (blk_cell B2.out 0).trans rfl
      have hfy0 := blk_frozen B2.out 0
      have hcy1 := (blk_cell B2.out 1).trans rfl
      have hfy1 := blk_frozen B2.out 1
      have hcy2 := (blk_cell B2.out 2).trans rfl
      have hfy2 := blk_frozen B2.out 2
      go_wp2
      refine bodyPost_ret (results_ct rfl _ _ g0 91 #[.int .i64 0, .int .i64 0, .string ⟨#[]⟩] (0, 0) _ rfl (blk_put (blk_put (blk_put B2.out 0 _ rfl) 1 _ rfl) 2 _ rfl) Tryd.underlying91 rfl (by kernel_rfl)) rfl ?_
      have HX := HX2.out
      simp only [Option.some.injEq, Prod.mk.injEq] at HX
      obtain ⟨rfl, rfl, rfl, rfl⟩ := HX
      exact ⟨rfl, ((HB2.out.setCell GE0.out _).setCell GE0.out _).setCell GE0.out _⟩
   ·rw [if_neg c2] at h
    have HX := Aside0.mk h
    have e2 : (c == 2) = false := beq_eq_false_iff_ne.mpr c2
    have e2' : (c != 2) = true := bne_iff_ne.mpr c2
    have e3 : (c == 3) = false := beq_eq_false_iff_ne.mpr (fun e => c34 (.inl e))
    have e4 : (c == 4) = false := beq_eq_false_iff_ne.mpr (fun e => c34 (.inr e))
    clear h c2 c34 hcr
    go_enter Tryd.func72, Tryd.ntmps72
    go_wp2_with (((with_reducible refine gate_dst (N := 2) rfl ?_); (try (refine gate_guard (by rfl) ?_; dsimp only)); refine box_event ?hg (N := 2) ?hd (cs := #[.int .i64 0, .int .i64 0, .string ⟨#[]⟩]) (t := 91) ?hr ?_; (case hd => rfl); (case hg => rfl); (case hr => (go_simp; done)); intro g0 hg0 w1 hbox hb; have B0 := Aside0.mk hbox; have HB1 := Aside0.mk hb; have GE0 := Aside0.mk (show w.heap.size ≤ g0 from by rw [hg0]; exact Nat.le_refl _); clear hbox hb hg0; have hcy0 := (blk_cell B0.out 0).trans rfl; have hcy1 := (blk_cell B0.out 1).trans rfl; have hcy2 := (blk_cell B0.out 2).trans rfl; have hfy0 := blk_frozen B0.out 0; have hfy1 := blk_frozen B0.out 1; have hfy2 := blk_frozen B0.out 2))
    refine bodyPost_ret (results_ct rfl _ _ g0 91 #[.int .i64 0, .int .i64 0, .string ⟨#[]⟩] (0, 0) _ rfl (blk_put (blk_put (blk_put B0.out 0 _ rfl) 1 _ rfl) 2 _ rfl) Tryd.underlying91 rfl (by kernel_rfl)) rfl ?_
    have HX := HX.out
    simp only [Option.some.injEq, Prod.mk.injEq] at HX
    obtain ⟨rfl, rfl, rfl, rfl⟩ := HX
    exact ⟨rfl, ((HB1.out.setCell GE0.out _).setCell GE0.out _).setCell GE0.out _⟩
 ·rw [if_neg hs] at h
  cases h

end Go.Proofs.YtbdfmjgndeigpaaDoor.P
