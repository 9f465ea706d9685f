-- by xprint (this session's program over the kit's printer)
import Derived.Test.YtbdfmjgndeigpaaDoorPx0
import Derived.Test.YtbdfmjgndeigpaaDoorPx13
import Derived.Outline
import Derived.WalkSpells
import Derived.Laws.BitsAllLaws
namespace Go.Proofs.YtbdfmjgndeigpaaDoor.P
open Go.RowKit Go.Proofs.YtbdfmjgndeigpaaDoorW.PrintWords Go.Proofs.YtbdfmjgndeigpaaDoorW.PrintLast Go.Proofs.YtbdfmjgndeigpaaDoorW.PrintMore
attribute [local go_sem] max2_int min2_int max_two min_two max_three min_three max_four min_four   -- for this text's walks alone
set_option linter.unusedVariables false
set_option linter.unusedSimpArgs false

/-! ### A reader (field.Reader), by hand -/
/-- A block that is a reader's. -/
structure Rdr (w : World) (p : Nat) (s : ByteArray) (A : Option Addr) (c : Nat) (at_ err : Int) : Prop where
 blk : w.heap[p]? = some (.cells #[.bool true, .slice A s.size c, .int .i64 at_, .int .i64 err] 111 (0, 0))
 rd : ReadsInt w .u8 A s.size (bytesOf s)
 ne : ∀ a, A = some a → a.block ≠ p
 cap : s.size ≤ c
 small : s.size ≤ 140737488351232
/-- The number of bytes. -/
def numOf (l : List Int) : Int := l.foldl (fun n c => n * 256 + c) 0
theorem numOf_snoc (l : List Int) (c : Int) : numOf (l ++ [c]) = numOf l * 256 + c := by unfold numOf; rw [List.foldl_append]; rfl
theorem numOf_bd : ∀ (k : Nat) (l : List Int), l.length = k → (∀ c ∈ l, 0 ≤ c ∧ c ≤ 255) → 0 ≤ numOf l ∧ numOf l < 256 ^ k
 | 0, l, h, _ => by
  obtain rfl := List.eq_nil_of_length_eq_zero h
  exact ⟨Int.le_refl _, by decide⟩
 | k + 1, l, h, hc => by
  obtain ⟨m, c, rfl⟩ : ∃ m c, l = m ++ [c] := ⟨l.dropLast, l.getLast (by intro e; rw [e] at h; cases h), (List.dropLast_concat_getLast _).symm⟩
  obtain ⟨h0, h1⟩ := numOf_bd k m (by simpa using h) (fun x hx => hc x (by simp [hx]))
  have := hc c (by simp)
  rw [numOf_snoc, Int.pow_succ]
  generalize (256 : Int) ^ k = P at h1 ⊢
  omega
theorem bytesOf_range {s : ByteArray} {c : Int} (h : c ∈ bytesOf s) : 0 ≤ c ∧ c ≤ 255 := by
 unfold bytesOf at h
 obtain ⟨b, _, rfl⟩ := List.mem_map.1 h
 have := b.toNat_lt
 omega
theorem rdr_or {n c : Int} (h0 : 0 ≤ n) (h1 : n < 16777216) (g0 : 0 ≤ c) (g1 : c ≤ 255) : Go.bits .or .u64 (n * 256) c = n * 256 + c := by
 obtain ⟨n, rfl⟩ : ∃ m : Nat, n = m := ⟨n.toNat, by omega⟩
 obtain ⟨c, rfl⟩ : ∃ m : Nat, c = m := ⟨c.toNat, by omega⟩
 have e : ((n : Int) * 256) = ((n * 256 : Nat) : Int) := by omega
 rw [e, u64_or_nat _ _ (by omega) (by omega), nat_join 8 _ _ (by omega) (by omega)]
 omega
set_option maxHeartbeats 4000000 in
set_option maxRecDepth 100000 in
theorem rdr_number (w : World) (p : Nat) (s : ByteArray) (A : Option Addr) (c : Nat) (at_ : Nat) (b : Nat) (hb : b ≤ 4) (hat : at_ + b ≤ s.size) (hr : Rdr w p s A c at_ 0) :
  Calls Tryd.prog 77 #[.pointer (some ⟨p, 0, none⟩), .int .i64 at_, .int .i64 b] w fun e w' => e = .returned (.tuple #[.int .u64 (numOf (((bytesOf s).drop at_).take b)), .bool true]) ∧ w = w' := by
 obtain ⟨hblk, hrd, hne, hcap, hsm⟩ := hr
 have hc1 := (blk_cell hblk 1).trans rfl
 obtain ⟨i0, hi, hz0, hz1, hz2⟩ := info_parts info5
 have hcut := cut_mid (P := Tryd.prog) 73 5 .i64 .i64 Tryd.underlying73 hi 1 hz1 A s.size c (at_ : Int) ((at_ : Int) + (b : Int)) (by omega) (by omega) (by omega) hcap
 rw [show ((at_ : Int) + (b : Int)).toNat = at_ + b by omega, Int.toNat_natCast] at hcut
 have hrs : ReadsInt w .u8 (if c = at_ then A else A.map (·.add (at_ * 1))) b (((bytesOf s).take (at_ + b)).drop at_) := by
  by_cases e : s.size = at_ + b
  ·have h1 := ReadsInt.drop_ (hrd.take_ (at_ + b) hat) at_ (by omega) (show at_ + b ≤ c by omega)
   rw [Nat.mul_one]
   rwa [show at_ + b - at_ = b by omega] at h1
  ·have h1 := ReadsInt.drop_ (hrd.take_ (at_ + b) hat) at_ (by omega) (show at_ + b ≤ c by omega)
   rw [Nat.mul_one]
   rwa [show at_ + b - at_ = b by omega] at h1
 have hls : ((bytesOf s).take (at_ + b)).drop at_ = ((bytesOf s).drop at_).take b := by rw [List.drop_take]; congr 1; omega
 rw [hls] at hrs
 have hrange : ∀ x ∈ ((bytesOf s).drop at_).take b, 0 ≤ x ∧ x ≤ 255 := fun x hx => bytesOf_range (List.mem_of_mem_drop (List.mem_of_mem_take hx))
 have hxl : (((bytesOf s).drop at_).take b).length = b := by rw [List.length_take, List.length_drop, bytesOf_length]; omega
 generalize ((bytesOf s).drop at_).take b = xs at hrs hrange hxl ⊢
 generalize (if c = at_ then A else A.map (·.add (at_ * 1))) = A2 at hcut hrs
 clear hblk hi hz0 hz1 hz2 hls
 have HRS := Aside0.mk hrs
 clear hrs
 have d1 : decide ((s.size : Int) - (at_ : Int) < (b : Int)) = false := decide_eq_false (by omega)
 have HXL := Aside0.mk hxl
 clear hxl
 go_enter Tryd.func77, Tryd.ntmps77
 go_wp2
 go_loop [8, 30] (fun n i => ∃ k : Nat, i = .int .i64 k ∧ k ≤ b ∧ n = .int .u64 (numOf (xs.take k))) (fun _ i => b - (intOf i).toNat)
 case atStart => exact ⟨0, rfl, Nat.zero_le _, rfl⟩
 case round =>
  obtain ⟨k, rfl, hk, rfl⟩ := hrel
  by_cases hlt : k < b
  ·obtain ⟨ad, had, hcell⟩ := HRS.out.at_ k (by omega) (by omega)
   cases had
   rw [Int.toNat_natCast] at hcell
   have hx := hrange (rd xs k) (by
    have h_ := HXL.out
    simp only [rd, Int.toNat_natCast, List.getD_eq_getElem?_getD, List.getElem?_eq_getElem (show k < xs.length by omega), Option.getD_some]
    exact List.getElem_mem _)
   have hsn : xs.take (k + 1) = xs.take k ++ [rd xs k] := by
    have h_ := HXL.out
    rw [List.take_add_one, List.getElem?_eq_getElem (show k < xs.length by omega)]
    simp [rd, List.getD_eq_getElem?_getD, List.getElem?_eq_getElem (show k < xs.length by omega)]
   have hnb := numOf_bd k (xs.take k) (by rw [List.length_take]; have h_ := HXL.out; omega) (fun x hx => hrange x (List.mem_of_mem_take hx))
   have hp3 : (256 : Int) ^ k ≤ 16777216 := by
    have : k ≤ 3 := by omega
    have : k = 0 ∨ k = 1 ∨ k = 2 ∨ k = 3 := by omega
    rcases this with rfl | rfl | rfl | rfl <;> decide
   have hnx : numOf (xs.take (k + 1)) = numOf (xs.take k) * 256 + rd xs k := by rw [hsn, numOf_snoc]
   have HNX := Aside0.mk hnx
   have hn0 := hnb.1
   have hn1 : numOf (xs.take k) < 16777216 := by omega
   clear hnx hsn hnb hp3
   generalize hN : numOf (xs.take k) = N at hn0 hn1 HNX ⊢
   generalize rd xs k = x at hx hcell HNX
   have hor := rdr_or hn0 hn1 hx.1 hx.2
   clear hN
   go_wp2
   go_round
   case rel => exact ⟨k + 1, by go_num, by omega, by rw [HNX.out]⟩
   case measure => simp [intOf]; omega
  ·obtain rfl : k = b := by omega
   have e : xs.take k = xs := List.take_of_length_le (by have h_ := HXL.out; omega)
   rw [e]
   clear e
   go_wp2
   go_ret2
   exact ⟨rfl, rfl⟩
set_option maxHeartbeats 4000000 in
theorem rdr_short (w : World) (p : Nat) (s : ByteArray) (A : Option Addr) (c : Nat) (at_ : Nat) (b : Nat) (hb : b ≤ 4) (hat : ¬ at_ + b ≤ s.size) (hs : at_ ≤ s.size) (hr : Rdr w p s A c at_ 0) :
  Calls Tryd.prog 77 #[.pointer (some ⟨p, 0, none⟩), .int .i64 at_, .int .i64 b] w fun e w' => e = .returned (.tuple #[.int .u64 0, .bool false]) ∧ w = w' := by
 obtain ⟨hblk, hrd, hne, hcap, hsm⟩ := hr
 have hc1 := (blk_cell hblk 1).trans rfl
 clear hblk hrd hne
 have d1 : decide ((s.size : Int) - (at_ : Int) < (b : Int)) = true := decide_eq_true (by omega)
 go_enter Tryd.func77, Tryd.ntmps77
 go_wp2
 go_ret2
 exact ⟨rfl, rfl⟩
theorem rdr_ready (w : World) (p : Nat) (s : ByteArray) (A : Option Addr) (c : Nat) (at_ err : Int) (hr : Rdr w p s A c at_ err) :
  Calls Tryd.prog 76 #[.pointer (some ⟨p, 0, none⟩)] w fun e w' => e = .returned (.bool (err == 0)) ∧ w = w' := by
 obtain ⟨hblk, hrd, hne, hcap, hsm⟩ := hr
 have hc0 := (blk_cell hblk 0).trans rfl
 have hc3 := (blk_cell hblk 3).trans rfl
 clear hblk hrd hne
 go_enter Tryd.func76, Tryd.ntmps76
 go_wp2
 go_ret
 exact ⟨rfl, rfl⟩
theorem rdr_plain (n : Int) (w : World) (h0 : 0 ≤ n) (h1 : n < 4294967296) :
  Calls Tryd.prog 66 #[.int .u64 n] w fun e w' => e = .returned (.int .i64 n) ∧ w = w' := by
 go_enter Tryd.func66, Tryd.ntmps66
 go_wp2
 go_ret
 exact ⟨rfl, rfl⟩
/-- A reader's block with other cells. -/
theorem Rdr.put {w : World} {p : Nat} {s : ByteArray} {A : Option Addr} {c : Nat} {at_ err : Int} (h : Rdr w p s A c at_ err) (at' err' : Int) (i : Nat) (v : Value) (e : (#[.bool true, .slice A s.size c, .int .i64 at_, .int .i64 err] : Array Value).setIfInBounds i v = #[.bool true, .slice A s.size c, .int .i64 at', .int .i64 err']) : Rdr (w.setCell ⟨p, i, none⟩ v) p s A c at' err' := by
 refine ⟨blk_put h.blk i v e, ⟨h.rd.1, h.rd.2.1, fun hp => ?_⟩, h.ne, h.cap, h.small⟩
 obtain ⟨ad, ha, hc⟩ := h.rd.2.2 hp
 refine ⟨ad, ha, fun j hj => ?_⟩
 rw [← hc j hj]
 have hn := h.ne ad ha
 unfold World.cell?
 rw [Below.heap_setCell w ⟨p, i, none⟩ v (ad.add j).block (by have h_ : (ad.add j).block = ad.block := (by unfold Addr.add; split <;> rfl); rw [h_]; exact hn)]
theorem rdr_below {w0 w : World} (h : Below w0.heap.size w0 w) {p : Nat} (hp : w0.heap.size ≤ p) (i : Nat) (v : Value) : Below w0.heap.size w0 (w.setCell ⟨p, i, none⟩ v) := h.setCell hp v
/-- What is read next, of so many bytes. -/
def tk (s : ByteArray) (b : Nat) (x : Nat × Int) : Int × Nat × Int :=
 if x.2 = 0 then (if x.1 + b ≤ s.size then (numOf (((bytesOf s).drop x.1).take b), x.1 + b, 0) else (0, x.1, 3)) else (0, x.1, x.2)
set_option maxHeartbeats 4000000 in
theorem rdr_take (w0 w : World) (p : Nat) (s : ByteArray) (A : Option Addr) (c : Nat) (x : Nat × Int) (b : Nat) (hb : b ≤ 4) (bi : Int) (hbi : bi = b) (hs : x.1 ≤ s.size) (hB : Below w0.heap.size w0 w) (hp : w0.heap.size ≤ p) (hr : Rdr w p s A c x.1 x.2) :
  Calls Tryd.prog 65 #[.pointer (some ⟨p, 0, none⟩), .int .i64 bi, .func (.func 66) #[] #[]] w fun e w' => e = .returned (.int .i64 (tk s b x).1) ∧ Rdr w' p s A c (tk s b x).2.1 (tk s b x).2.2 ∧ Below w0.heap.size w0 w' := by
 subst hbi
 obtain ⟨at_, err⟩ := x
 have hs : at_ ≤ s.size := hs
 have hr : Rdr w p s A c at_ err := hr
 have hsm := hr.small
 have hc2 := (blk_cell hr.blk 2).trans rfl
 have hf2 := blk_frozen hr.blk 2
 have hf3 := blk_frozen hr.blk 3
 have hc3 := (blk_cell hr.blk 3).trans rfl
 have HB := Aside0.mk hB
 clear hB
 unfold tk
 by_cases e0 : err = 0
 ·subst e0
  by_cases e1 : at_ + b ≤ s.size
  ·rw [if_pos rfl, if_pos e1]
   have hnb := numOf_bd b (((bytesOf s).drop at_).take b) (by rw [List.length_take, List.length_drop, bytesOf_length]; omega) (fun x hx => bytesOf_range (List.mem_of_mem_drop (List.mem_of_mem_take hx)))
   have hp4 : (256 : Int) ^ b ≤ 4294967296 := by
    have : b = 0 ∨ b = 1 ∨ b = 2 ∨ b = 3 ∨ b = 4 := by omega
    rcases this with rfl | rfl | rfl | rfl | rfl <;> decide
   have hnum := rdr_number w p s A c at_ b hb e1 hr
   have hn0 := hnb.1
   have hn1 : numOf (((bytesOf s).drop at_).take b) < 4294967296 := by omega
   clear hnb hp4
   generalize numOf (((bytesOf s).drop at_).take b) = N at hnum hn0 hn1 ⊢
   have hrd := rdr_ready w p s A c at_ 0 hr
   have HR := Aside0.mk hr
   clear hr
   go_enter Tryd.func65, Tryd.ntmps65
   go_wp2_with (first | (go_at_call 76; (with_reducible refine hrd.mono ?_); rintro e w' ⟨rfl, rfl⟩) | (go_at_call 77; (with_reducible refine hnum.mono ?_); rintro e w' ⟨rfl, rfl⟩) | (go_at_call 66; (with_reducible refine (rdr_plain N _ hn0 hn1).mono ?_); rintro e w' ⟨rfl, rfl⟩))
   go_ret
   exact ⟨rfl, HR.out.put _ _ 2 _ (by rw [Int.natCast_add]; rfl), rdr_below HB.out hp _ _⟩
  ·rw [if_pos rfl, if_neg e1]
   have hnum := rdr_short w p s A c at_ b hb e1 hs hr
   have hrd := rdr_ready w p s A c at_ 0 hr
   have HR := Aside0.mk hr
   clear hr
   go_enter Tryd.func65, Tryd.ntmps65
   go_wp2_with (first | (go_at_call 76; (with_reducible refine hrd.mono ?_); rintro e w' ⟨rfl, rfl⟩) | (go_at_call 77; (with_reducible refine hnum.mono ?_); rintro e w' ⟨rfl, rfl⟩))
   go_ret
   exact ⟨rfl, HR.out.put _ _ 3 _ rfl, rdr_below HB.out hp _ _⟩
 ·rw [if_neg e0]
  have hrd := rdr_ready w p s A c at_ err hr
  have ee : (err == 0) = false := beq_eq_false_iff_ne.mpr e0
  rw [ee] at hrd
  have HR := Aside0.mk hr
  clear hr
  go_enter Tryd.func65, Tryd.ntmps65
  go_wp2_with (go_at_call 76; (with_reducible refine hrd.mono ?_); rintro e w' ⟨rfl, rfl⟩)
  go_ret
  exact ⟨rfl, HR.out, HB.out⟩
theorem tk_le {s : ByteArray} {b : Nat} {x : Nat × Int} (h : x.1 ≤ s.size) : (tk s b x).2.1 ≤ s.size := by
 unfold tk
 split
 ·split
  ·assumption
  ·exact h
 ·exact h
theorem rdr_U8 (w0 w : World) (p : Nat) (s : ByteArray) (A : Option Addr) (c : Nat) (x : Nat × Int) (hs : x.1 ≤ s.size) (hB : Below w0.heap.size w0 w) (hp : w0.heap.size ≤ p) (hr : Rdr w p s A c x.1 x.2) :
  Calls Tryd.prog 41 #[.pointer (some ⟨p, 0, none⟩)] w fun e w' => e = .returned (.int .i64 (tk s 1 x).1) ∧ Rdr w' p s A c (tk s 1 x).2.1 (tk s 1 x).2.2 ∧ Below w0.heap.size w0 w' := by
 have ht := rdr_take w0 w p s A c x 1 (by omega) 1 rfl hs hB hp hr
 clear hB hr
 go_enter Tryd.func41, Tryd.ntmps41
 go_wp2_with (go_at_call 65; (with_reducible refine ht.mono ?_); rintro e w' ⟨rfl, hq⟩)
 go_ret
 exact ⟨rfl, hq⟩
theorem rdr_U16 (w0 w : World) (p : Nat) (s : ByteArray) (A : Option Addr) (c : Nat) (x : Nat × Int) (hs : x.1 ≤ s.size) (hB : Below w0.heap.size w0 w) (hp : w0.heap.size ≤ p) (hr : Rdr w p s A c x.1 x.2) :
  Calls Tryd.prog 42 #[.pointer (some ⟨p, 0, none⟩)] w fun e w' => e = .returned (.int .i64 (tk s 2 x).1) ∧ Rdr w' p s A c (tk s 2 x).2.1 (tk s 2 x).2.2 ∧ Below w0.heap.size w0 w' := by
 have ht := rdr_take w0 w p s A c x 2 (by omega) 2 rfl hs hB hp hr
 clear hB hr
 go_enter Tryd.func42, Tryd.ntmps42
 go_wp2_with (go_at_call 65; (with_reducible refine ht.mono ?_); rintro e w' ⟨rfl, hq⟩)
 go_ret
 exact ⟨rfl, hq⟩
theorem rdr_U32 (w0 w : World) (p : Nat) (s : ByteArray) (A : Option Addr) (c : Nat) (x : Nat × Int) (hs : x.1 ≤ s.size) (hB : Below w0.heap.size w0 w) (hp : w0.heap.size ≤ p) (hr : Rdr w p s A c x.1 x.2) :
  Calls Tryd.prog 43 #[.pointer (some ⟨p, 0, none⟩)] w fun e w' => e = .returned (.int .i64 (tk s 4 x).1) ∧ Rdr w' p s A c (tk s 4 x).2.1 (tk s 4 x).2.2 ∧ Below w0.heap.size w0 w' := by
 have ht := rdr_take w0 w p s A c x 4 (by omega) 4 rfl hs hB hp hr
 clear hB hr
 go_enter Tryd.func43, Tryd.ntmps43
 go_wp2_with (go_at_call 65; (with_reducible refine ht.mono ?_); rintro e w' ⟨rfl, hq⟩)
 go_ret
 exact ⟨rfl, hq⟩
theorem rdr_Err (w : World) (p : Nat) (s : ByteArray) (A : Option Addr) (c : Nat) (at_ err : Int) (hr : Rdr w p s A c at_ err) :
  Calls Tryd.prog 67 #[.pointer (some ⟨p, 0, none⟩)] w fun e w' => e = .returned (.int .i64 err) ∧ w = w' := by
 obtain ⟨hblk, hrd, hne, hcap, hsm⟩ := hr
 have hc0 := (blk_cell hblk 0).trans rfl
 have hc3 := (blk_cell hblk 3).trans rfl
 clear hblk hrd hne
 go_enter Tryd.func67, Tryd.ntmps67
 go_wp2
 go_ret
 exact ⟨rfl, rfl⟩
def endOf (s : ByteArray) (x : Nat × Int) : Int := if x.2 = 0 then (if x.1 < s.size then 5 else 0) else x.2
theorem rdr_End (w : World) (p : Nat) (s : ByteArray) (A : Option Addr) (c : Nat) (x : Nat × Int) (hr : Rdr w p s A c x.1 x.2) :
  Calls Tryd.prog 44 #[.pointer (some ⟨p, 0, none⟩)] w fun e w' => e = .returned (.int .i64 (endOf s x)) ∧ ∃ n, w' = w.drewN n := by
 obtain ⟨at_, err⟩ := x
 have hr : Rdr w p s A c at_ err := hr
 have he := rdr_Err w p s A c at_ err hr
 have hsm := hr.small
 have hc1 := (blk_cell hr.blk 1).trans rfl
 have hc2 := (blk_cell hr.blk 2).trans rfl
 clear hr
 unfold endOf
 by_cases e0 : err = 0
 ·subst e0
  by_cases e1 : at_ < s.size
  ·rw [if_pos rfl, if_pos e1]
   have d1 : decide (at_ < s.size) = true := decide_eq_true e1
   go_enter Tryd.func44, Tryd.ntmps44
   go_wp2_with (first | (go_at_call 67; (with_reducible refine he.mono ?_); rintro e w' ⟨rfl, rfl⟩) | go_quiet (fail))
   go_ret
   exact ⟨rfl, _, rfl⟩
  ·rw [if_pos rfl, if_neg e1]
   have d1 : decide (at_ < s.size) = false := decide_eq_false e1
   go_enter Tryd.func44, Tryd.ntmps44
   go_wp2_with (first | (go_at_call 67; (with_reducible refine he.mono ?_); rintro e w' ⟨rfl, rfl⟩) | go_quiet (fail))
   go_ret
   exact ⟨rfl, _, rfl⟩
 ·rw [if_neg e0]
  have ee : (err == 0) = false := beq_eq_false_iff_ne.mpr e0
  have ee2 : decide (err = 0) = false := decide_eq_false e0
  go_enter Tryd.func44, Tryd.ntmps44
  go_wp2_with (first | (go_at_call 67; (with_reducible refine he.mono ?_); rintro e w' ⟨rfl, rfl⟩))
  go_ret
  exact ⟨rfl, 0, rfl⟩
set_option maxHeartbeats 4000000 in
set_option maxRecDepth 100000 in
theorem rdr_Clone (w : World) (ad : Addr) (n c : Nat) (xs : List Int) (hl : xs.length = n) (hn : n ≤ 140737488351232) (hC : ReadsInt w .u8 (some ad) n xs) :
  Calls Tryd.prog 64 #[.slice (some ad) n c] w fun e w' => ∃ v, e = .returned v ∧ Kd.R (Kd.int .u8) 5 w' w.heap.size (fun _ => True) v xs ∧ Below w.heap.size w w' := by
 have HB := Aside0.mk (Below.refl w.heap.size w)
 have HC := Aside0.mk (show Kd.C (Kd.int .u8) w (some ad) n xs from Kd.C_of_reads (enc := Value.int .u8) (d := (0 : Int)) (h1 := fun _ => rfl) hC)
 clear hC
 have he : ∀ W, (binOp .eql 73 (.slice (some ad) n c) (.slice none 0 0)).run Tryd.prog W = .ok (.bool false) W := fun _ => rfl
 go_enter Tryd.func64, Tryd.ntmps64
 go_wp2_with (first | ((with_reducible refine gate_dst (N := 5) rfl ?_); refine Kd.R_lit (Kd.int .u8) _ 5 ?hg (N := 5) ?hd (xs := ([] : List Int)) (inner := []) (ok := fun _ => True) (okp := fun _ => True) ?hr ?hp (fun _ hk => hk) trivial (Below.refl _ _) (Nat.le_refl _) (by simp) ?_; (case hd => rfl); (case hg => rfl); (case hr => first | (go_simp; done) | (go_simp; rfl)); (case hp => exact (Reps.none _ _)); intro v5 w5 ho5 hb5 hg_ hnew_; clear hg_ hnew_; have HO := Aside0.mk ho5; have HB5 := Aside0.mk hb5; clear ho5 hb5) | ((with_reducible refine gate_builtin (b := .append) (xs := #[.tmp 5, .tmp 6]) rfl ?_); at_builtin; refine Kd.R_append_rows (Kd.int .u8) (w0 := w) w.heap.size rfl (.tmp 5) (.tmp 6) 73 5 (.int .u8 0) 1 rfl Tryd.underlying73 info5 rfl (by decide) (by omega) v5 [] xs _ _ _ (fun _ => True) (fun _ => False) rfl rfl ?aO ?aR (fun _ _ h => h) (fun _ h => h.elim) ?aF ?aB ?aS ?aL ?_; (case aR => exact Kd.C_below HC.out HB5.out); (case aB => exact HB5.out); (case aF => exact (fun _ _ => trivial)); (case aO => exact HO.out); (case aS => exact HB5.out.size); (case aL => simp only [List.length_nil]; omega); intro v7 w7 ho7 hb7 hg hat; clear hg hat; have HO7 := Aside0.mk ho7; have HB7 := Aside0.mk hb7; clear ho7 hb7))
 go_ret
 exact ⟨v7, rfl, HO7.out, HB7.out⟩
theorem rdr_Clone2 (w : World) (ad : Addr) (s : ByteArray) (c : Nat) (hs : s.size ≤ 140737488351232) (hC : ReadsInt w .u8 (some ad) s.size (bytesOf s)) :
  Calls Tryd.prog 64 #[.slice (some ad) s.size c] w fun e w' => ∃ A2 c2, e = .returned (.slice A2 s.size c2) ∧ ReadsInt w' .u8 A2 s.size (bytesOf s) ∧ Below w.heap.size w w' ∧ (∀ a, A2 = some a → a.block < w'.heap.size) ∧ s.size ≤ c2 := by
 refine (rdr_Clone w ad s.size c (bytesOf s) (bytesOf_length s) hs hC).mono ?_
 rintro e w' ⟨v, rfl, hR, hB⟩
 ·obtain ⟨A2, c2, hv, hl, hK⟩ := Kd.R_reads hR
  have hlt := Kd.R_lt hR
  subst hv
  rw [bytesOf_length] at hl hK
  refine ⟨A2, c2, by rw [bytesOf_length], ?_, hB, fun a ha => hlt a.block (by rw [ha]; rfl), hl⟩
  exact Kd.reads_of_C (enc := Value.int .u8) (d := (0 : Int)) (h1 := fun _ => rfl) hK
set_option maxHeartbeats 4000000 in
set_option maxRecDepth 100000 in
theorem rdr_New (w : World) (ad : Addr) (s : ByteArray) (c : Nat) (hs : s.size ≤ 140737488351232) (hC : ReadsInt w .u8 (some ad) s.size (bytesOf s)) :
  Calls Tryd.prog 40 #[.slice (some ad) s.size c] w fun e w' => ∃ p A c', e = .returned (.pointer (some ⟨p, 0, none⟩)) ∧ w.heap.size ≤ p ∧ Rdr w' p s A c' 0 0 ∧ Below w.heap.size w w' := by
 have hcl := rdr_Clone2 w ad s c hs hC
 clear hC
 go_enter Tryd.func40, Tryd.ntmps40
 go_wp2_with (first | (go_at_call 64; (with_reducible refine hcl.mono ?_); rintro e w' ⟨A2, c2, rfl, hR2, hB2, hlt2, hle2⟩) | ((with_reducible refine gate_dst (N := 6) rfl ?_); refine box_event ?hg (N := 6) ?hd (cs := #[.bool true, .slice A2 s.size c2, .int .i64 0, .int .i64 0]) (t := 111) ?hr ?_; (case hd => rfl); (case hg => rfl); (case hr => first | (go_simp; done) | (go_simp; rfl)); intro gb hgb w7 hbox hb))
 go_ret
 refine ⟨w'.heap.size, A2, c2, rfl, hB2.size, ⟨?_, hR2.below hb, fun a ha => ?_, hle2, hs⟩, below_step hB2 hb⟩
 ·rw [← hgb]
  exact hbox
 ·have := hlt2 a ha
  omega
/-! ### layout.ReadHead, by hand -/
def num_at (s : ByteArray) (i n : Nat) : Int := numOf (((bytesOf s).drop i).take n)
def layout_ReadHead.f (k : Nat) (a0 : ByteArray) : Option (Int × Int × Int × Bool × Bool × Int) :=
 if a0.size = 11 then (layout_Head.f k (num_at a0 1 2) (num_at a0 3 4) (num_at a0 7 4) (Go.bits .and .i64 (num_at a0 0 1) 1 != 0) (Go.bits .and .i64 (num_at a0 0 1) 2 != 0)).bind fun t =>
  if t.2 = 0 ∧ t.1.toList = a0.toList then some (num_at a0 1 2, num_at a0 3 4, num_at a0 7 4, Go.bits .and .i64 (num_at a0 0 1) 1 != 0, Go.bits .and .i64 (num_at a0 0 1) 2 != 0, 0) else some (0, 0, 0, false, false, 4)
 else if a0.size ≤ 140737488351232 then some (0, 0, 0, false, false, 4) else none
theorem layout_ReadHead.mono : ∀ a0 k, LeO (layout_ReadHead.f k a0) (layout_ReadHead.f (k + 1) a0) := by
 intro a0 k
 unfold layout_ReadHead.f
 exact LeO.ite (LeO.bind (layout_Head.mono _ _ _ _ _ _) (fun _ => LeO.refl _)) (LeO.refl _)
/-- The four reads, one behind the other. -/
def rd1 (s : ByteArray) : Int × Nat × Int := tk s 1 (0, 0)
def rd2 (s : ByteArray) : Int × Nat × Int := tk s 2 (rd1 s).2
def rd3 (s : ByteArray) : Int × Nat × Int := tk s 4 (rd2 s).2
def rd4 (s : ByteArray) : Int × Nat × Int := tk s 4 (rd3 s).2
theorem rd_le (s : ByteArray) : (rd1 s).2.1 ≤ s.size ∧ (rd2 s).2.1 ≤ s.size ∧ (rd3 s).2.1 ≤ s.size ∧ (rd4 s).2.1 ≤ s.size := by
 have h1 : (rd1 s).2.1 ≤ s.size := tk_le (x := (0, 0)) (Nat.zero_le _)
 have h2 : (rd2 s).2.1 ≤ s.size := tk_le h1
 have h3 : (rd3 s).2.1 ≤ s.size := tk_le h2
 exact ⟨h1, h2, h3, tk_le h3⟩
theorem rd_eleven {s : ByteArray} (h : s.size = 11) : rd1 s = (num_at s 0 1, 1, 0) ∧ rd2 s = (num_at s 1 2, 3, 0) ∧ rd3 s = (num_at s 3 4, 7, 0) ∧ rd4 s = (num_at s 7 4, 11, 0) ∧ endOf s (rd4 s).2 = 0 := by
 have h1 : rd1 s = (num_at s 0 1, 1, 0) := by
  unfold rd1 tk
  rw [if_pos rfl, if_pos (show 0 + 1 ≤ s.size by omega)]
  rfl
 have h2 : rd2 s = (num_at s 1 2, 3, 0) := by
  unfold rd2 tk
  rw [h1, if_pos rfl, if_pos (show 1 + 2 ≤ s.size by omega)]
  rfl
 have h3 : rd3 s = (num_at s 3 4, 7, 0) := by
  unfold rd3 tk
  rw [h2, if_pos rfl, if_pos (show 3 + 4 ≤ s.size by omega)]
  rfl
 have h4 : rd4 s = (num_at s 7 4, 11, 0) := by
  unfold rd4 tk
  rw [h3, if_pos rfl, if_pos (show 7 + 4 ≤ s.size by omega)]
  rfl
 refine ⟨h1, h2, h3, h4, ?_⟩
 unfold endOf
 rw [h4, if_pos rfl, if_neg (show ¬ 11 < s.size by omega)]
theorem tk_err {s : ByteArray} {b : Nat} {x : Nat × Int} : ((tk s b x).2.2 = 0 → x.2 = 0 ∧ x.1 + b ≤ s.size ∧ (tk s b x).2.1 = x.1 + b) := by
 unfold tk
 by_cases h1 : x.2 = 0
 ·rw [if_pos h1]
  by_cases h2 : x.1 + b ≤ s.size
  ·rw [if_pos h2]
   exact fun _ => ⟨h1, h2, rfl⟩
  ·rw [if_neg h2]
   intro h
   exact absurd (show (3 : Int) = 0 from h) (by decide)
 ·rw [if_neg h1]
  exact fun h => absurd h h1
theorem rd_other {s : ByteArray} (h : s.size ≠ 11) : endOf s (rd4 s).2 ≠ 0 := by
 intro h0
 unfold endOf at h0
 by_cases e : (rd4 s).2.2 = 0
 ·rw [if_pos e] at h0
  obtain ⟨a1, a2, a3⟩ := tk_err e
  obtain ⟨b1, b2, b3⟩ := tk_err a1
  obtain ⟨c1, c2, c3⟩ := tk_err b1
  obtain ⟨d1, d2, d3⟩ := tk_err c1
  have e3 : (rd3 s).2.1 = (tk s 4 (rd2 s).2).2.1 := rfl
  have e2 : (rd2 s).2.1 = (tk s 2 (rd1 s).2).2.1 := rfl
  have e1 : (rd1 s).2.1 = (tk s 1 (0, 0)).2.1 := rfl
  have e4 : (rd4 s).2.1 = (tk s 4 (rd3 s).2).2.1 := rfl
  have d3' : (tk s 1 (0, 0)).2.1 = 0 + 1 := d3
  by_cases hlt : (rd4 s).2.1 < s.size
  ·rw [if_pos hlt] at h0
   exact absurd h0 (by decide)
  ·omega
 ·rw [if_neg e] at h0
  exact e h0
theorem rdr_lt {w : World} {p : Nat} {s : ByteArray} {A : Option Addr} {c : Nat} {x y : Int} (h : Rdr w p s A c x y) : ∀ a, A = some a → 0 < s.size → a.block < w.heap.size := by
 intro a ha hs
 obtain ⟨ad, e, hc⟩ := h.rd.2.2 hs
 rw [ha] at e
 cases e
 have h0 := hc 0 hs
 rcases Nat.lt_or_ge a.block w.heap.size with hl | hl
 ·exact hl
 ·exfalso
  have hb : (a.add 0).block = a.block := by unfold Addr.add; split <;> rfl
  unfold World.cell? at h0
  rw [hb, Array.getElem?_eq_none hl] at h0
  cases h0
theorem rdr_set {w : World} {p : Nat} {s : ByteArray} {A : Option Addr} {c : Nat} {x y : Int} (h : Rdr w p s A c x y) {g : Nat} (hg : g ≠ p) (hA : ∀ a, A = some a → 0 < s.size → a.block ≠ g) (i : Nat) (v : Value) : Rdr (w.setCell ⟨g, i, none⟩ v) p s A c x y := by
 refine ⟨blk_far h.blk (by exact fun e => hg e.symm) v, ⟨h.rd.1, h.rd.2.1, fun hp => ?_⟩, h.ne, h.cap, h.small⟩
 obtain ⟨ad, ha, hc⟩ := h.rd.2.2 hp
 refine ⟨ad, ha, fun j hj => ?_⟩
 rw [← hc j hj]
 have hn := hA ad ha hp
 unfold World.cell?
 rw [Below.heap_setCell w ⟨g, i, none⟩ v (ad.add j).block (by have h_ : (ad.add j).block = ad.block := (by unfold Addr.add; split <;> rfl); rw [h_]; exact hn)]
theorem hr_below {w w1 : World} {p : Nat} {s : ByteArray} {A : Option Addr} {c : Nat} {x y : Int} (h : Rdr w p s A c x y) (hb : Below w.heap.size w w1) : Rdr w1 p s A c x y := ⟨blk_below h.blk hb, h.rd.below hb, h.ne, h.cap, h.small⟩
set_option maxHeartbeats 8000000 in
set_option maxRecDepth 100000 in
theorem layout_ReadHead.calls (k : Nat) (a0 : ByteArray) (r1 r2 r3 : Int) (r4 r5 : Bool) (r6 : Int) (w : World) (h : layout_ReadHead.f k a0 = some (r1, r2, r3, r4, r5, r6)) :
  Calls Tryd.prog 17 #[.string a0] w fun e w' => e = .returned (.tuple #[.agg #[.int .i64 r1, .int .i64 r2, .int .i64 r3, .bool r4, .bool r5], .int .i64 r6]) ∧ Below w.heap.size w w' := by
 have hsz : a0.size ≤ 140737488351232 := by
  unfold layout_ReadHead.f at h
  split at h
  ·omega
  ·split at h
   ·assumption
   ·cases h
 have hle1 : (tk a0 1 (0, 0)).2.1 ≤ a0.size := (rd_le a0).1
 have hle2 : (tk a0 2 (tk a0 1 (0, 0)).2).2.1 ≤ a0.size := (rd_le a0).2.1
 have hle3 : (tk a0 4 (tk a0 2 (tk a0 1 (0, 0)).2).2).2.1 ≤ a0.size := (rd_le a0).2.2.1
 have HB := Aside0.mk (Below.refl w.heap.size w)
 have kb := fun W => print_bytes (P := Tryd.prog) 9 73 5 Tryd.underlying9 Tryd.underlying73 Tryd.underlying5 a0 W
 have HF := Aside0.mk h
 clear h
 go_enter Tryd.func17, Tryd.ntmps17
 go_upto_region 2 with (first | ((with_reducible refine gate_dst (N := 2) rfl ?_); (try (refine gate_guard (by rfl) ?_; dsimp only)); refine box_event ?hg (N := 2) ?hd (cs := #[.int .i64 0, .int .i64 0, .int .i64 0, .bool false, .bool false]) (t := 40) ?hr ?_; (case hd => rfl); (case hg => rfl); (case hr => first | (go_simp; done) | (go_simp; rfl)); intro g0 hg0 w1 hbox hb; have B0 := Aside0.mk hbox; have HB1 := Aside0.mk hb; have GE0 := Aside0.mk (show w.heap.size ≤ g0 from by rw [hg0]; exact Nat.le_refl _); clear hbox hb hg0; have kb1 := kb w1; clear kb; have hnew := rdr_New (Lib.bytesWorld w1 5 a0) ⟨w1.heap.size, 0, none⟩ a0 (grownCap w1 a0.size 0 5) hsz (bytes_reads w1 5 a0 (by omega)); have HBB := Aside0.mk (show Below w1.heap.size w1 (Lib.bytesWorld w1 5 a0) from bytes_below (Below.refl _ _) (Nat.le_refl _) _ _); generalize Lib.bytesWorld w1 5 a0 = w2 at kb1 hnew HBB) | (go_at_call 40; (with_reducible refine hnew.mono ?_); rintro e w3 ⟨p, A, c, rfl, hp, hr, hb⟩; have HR := Aside0.mk (show Rdr w3 p a0 A c ((((0, 0) : Nat × Int).1 : Nat) : Int) ((0, 0) : Nat × Int).2 from hr); have HB3 := Aside0.mk (below_step HBB.out hb); have HP := Aside0.mk (show w1.heap.size ≤ p from Nat.le_trans HBB.out.size hp); clear hr hb hp hnew kb1 HBB))
 go_upto_region 3 with (go_at_call 41; (with_reducible refine (rdr_U8 w1 _ p a0 A c (0, 0) (Nat.zero_le _) HB3.out HP.out HR.out).mono ?_); rintro e w4 ⟨rfl, hr, hb⟩; have n0 := Aside0.mk hr; have n1 := Aside0.mk hb; clear HR HB3 hr hb; have HR := n0; have HB3 := n1; clear n0 n1)
 go_upto_region 4 with (first | (go_at_call 42; (with_reducible refine (rdr_U16 w1 _ p a0 A c _ hle1 HB3.out HP.out HR.out).mono ?_); rintro e w5 ⟨rfl, hr, hb⟩; have n0 := Aside0.mk hr; have n1 := Aside0.mk hb; clear HR HB3 hr hb; have HR := n0; have HB3 := n1; clear n0 n1) | (go_at_call 43; (with_reducible refine (rdr_U32 w1 _ p a0 A c _ (by first | exact hle2 | exact hle3) HB3.out HP.out HR.out).mono ?_); rintro e w6 ⟨rfl, hr, hb⟩; have n0 := Aside0.mk hr; have n1 := Aside0.mk hb; clear HR HB3 hr hb; have HR := n0; have HB3 := n1; clear n0 n1) | ((with_reducible refine gate_dst (N := 6) rfl ?_); (try (refine gate_guard (by rfl) ?_; dsimp only)); refine box_event ?hg (N := 6) ?hd (cs := #[.int .i64 0, .int .i64 0, .int .i64 0, .bool false, .bool false]) (t := 40) ?hr ?_; (case hd => rfl); (case hg => rfl); (case hr => first | (go_simp; done) | (go_simp; rfl)); intro g6 hg6 w7 hbox hb; have B6 := Aside0.mk hbox; have HB7 := Aside0.mk (below_step HB3.out hb); have HR7 := Aside0.mk (hr_below HR.out hb); have HG6 := Aside0.mk (show w1.heap.size ≤ g6 from by rw [hg6]; exact HB3.out.size); have HGA := Aside0.mk (show ∀ a, A = some a → 0 < a0.size → a.block ≠ g6 from fun a ha hs => by rw [hg6]; have := rdr_lt HR.out a ha hs; omega); have HGP := Aside0.mk (show g6 ≠ p from by rw [hg6]; have := blk_lt HR.out.blk; omega); clear hbox hb hg6 HB3 HR; have hcy0 := (blk_cell B6.out 0).trans rfl; have hcy1 := (blk_cell B6.out 1).trans rfl; have hcy2 := (blk_cell B6.out 2).trans rfl; have hcy3 := (blk_cell B6.out 3).trans rfl; have hcy4 := (blk_cell B6.out 4).trans rfl; have hfy0 := blk_frozen B6.out 0; have hfy1 := blk_frozen B6.out 1; have hfy2 := blk_frozen B6.out 2; have hfy3 := blk_frozen B6.out 3; have hfy4 := blk_frozen B6.out 4))
 clear hcy0 hcy1 hcy2 hcy3 hcy4 hfy0 hfy1 hfy2 hfy3 hfy4
 generalize hv1 : (tk a0 1 (0, 0)).1 = v1
 generalize hv2 : (tk a0 2 (tk a0 1 (0, 0)).2).1 = v2
 generalize hv3 : (tk a0 4 (tk a0 2 (tk a0 1 (0, 0)).2).2).1 = v3
 generalize hv4 : (tk a0 4 (tk a0 4 (tk a0 2 (tk a0 1 (0, 0)).2).2).2).1 = v4
 generalize hb4 : (Go.bits .and .i64 v1 1 != 0) = b4
 generalize hb5 : (Go.bits .and .i64 v1 2 != 0) = b5
 have hB8 : (((((w7.setCell ⟨g6, 0, none⟩ (.int .i64 v2)).setCell ⟨g6, 1, none⟩ (.int .i64 v3)).setCell ⟨g6, 2, none⟩ (.int .i64 v4)).setCell ⟨g6, 3, none⟩ (.bool b4)).setCell ⟨g6, 4, none⟩ (.bool b5)).heap[g6]? = some (.cells #[.int .i64 v2, .int .i64 v3, .int .i64 v4, .bool b4, .bool b5] 40 (0, 0)) :=
  blk_put (blk_put (blk_put (blk_put (blk_put B6.out 0 _ rfl) 1 _ rfl) 2 _ rfl) 3 _ rfl) 4 _ rfl
 have hR8 := rdr_set (rdr_set (rdr_set (rdr_set (rdr_set HR7.out HGP.out HGA.out 0 (.int .i64 v2)) HGP.out HGA.out 1 (.int .i64 v3)) HGP.out HGA.out 2 (.int .i64 v4)) HGP.out HGA.out 3 (.bool b4)) HGP.out HGA.out 4 (.bool b5)
 have hBel8 := rdr_below (rdr_below (rdr_below (rdr_below (rdr_below HB7.out HG6.out 0 (.int .i64 v2)) HG6.out 1 (.int .i64 v3)) HG6.out 2 (.int .i64 v4)) HG6.out 3 (.bool b4)) HG6.out 4 (.bool b5)
 clear B6 HB7 HR7
 generalize (((((w7.setCell ⟨g6, 0, none⟩ (.int .i64 v2)).setCell ⟨g6, 1, none⟩ (.int .i64 v3)).setCell ⟨g6, 2, none⟩ (.int .i64 v4)).setCell ⟨g6, 3, none⟩ (.bool b4)).setCell ⟨g6, 4, none⟩ (.bool b5)) = w8 at hB8 hR8 hBel8 ⊢
 have hend := rdr_End w8 p a0 A c _ hR8
 have B6 := Aside0.mk hB8
 have HB8 := Aside0.mk hBel8
 have HV1 := Aside0.mk hv1
 have HV2 := Aside0.mk hv2
 have HV3 := Aside0.mk hv3
 have HV4 := Aside0.mk hv4
 have HV5 := Aside0.mk hb4
 have HV6 := Aside0.mk hb5
 have B8 := Aside0.mk (blk_below B0.out hBel8)
 clear hB8 hR8 hBel8 hv1 hv2 hv3 hv4 hb4 hb5 hle1 hle2 hle3 B0 HGP HGA
 by_cases e11 : a0.size = 11
 ·obtain ⟨q1, q2, q3, q4, q5⟩ := rd_eleven e11
  have q5' : endOf a0 (tk a0 4 (tk a0 4 (tk a0 2 (tk a0 1 (0, 0)).2).2).2).2 = 0 := q5
  rw [q5'] at hend
  clear q5 q5'
  have HQ := Aside0.mk (show v1 = num_at a0 0 1 ∧ v2 = num_at a0 1 2 ∧ v3 = num_at a0 3 4 ∧ v4 = num_at a0 7 4 from by
   refine ⟨?_, ?_, ?_, ?_⟩
   ·rw [← HV1.out]; exact congrArg (·.1) q1
   ·rw [← HV2.out]; exact congrArg (·.1) q2
   ·rw [← HV3.out]; exact congrArg (·.1) q3
   ·rw [← HV4.out]; exact congrArg (·.1) q4)
  clear q1 q2 q3 q4
  have H := HF.out
  unfold layout_ReadHead.f at H
  rw [if_pos e11] at H
  obtain ⟨hq1, hq2, hq3, hq4⟩ := HQ.out
  rw [← hq1, ← hq2, ← hq3, ← hq4, HV5.out, HV6.out] at H
  obtain ⟨⟨t1, t2⟩, hH, H⟩ := Option.bind_eq_some_iff.mp H
  have HH := Aside0.mk hH
  have H2 := Aside0.mk H
  clear hq1 hq2 hq3 hq4 hH H HV1 HV2 HV3 HV4 HV5 HV6 HQ HF
  have H := H2.out
  clear H2
  by_cases c0 : t2 = 0
  ·subst c0
   by_cases c1 : t1.toList = a0.toList
   ·rw [if_pos (show ((t1, (0 : Int)) : ByteArray × Int).2 = 0 ∧ ((t1, (0 : Int)) : ByteArray × Int).1.toList = a0.toList from ⟨rfl, c1⟩)] at H
    have c1b0 : (t1.toList == a0.toList) = true := beq_iff_eq.mpr c1
    have c1b1 : (t1.toList != a0.toList) = false := bne_eq_false_iff_eq.mpr c1
    clear c1
    have HE := Aside0.mk H
    clear H
    go_wp2_with (first | (go_at_call 44; (with_reducible refine hend.mono ?_); rintro e w9 ⟨rfl, hq⟩; obtain ⟨n9, hn9⟩ := hq; have B9 := Aside0.mk (show w9.heap[g0]? = _ from blk_at hn9.symm B8.out); have C9 := Aside0.mk (show w9.heap[g6]? = _ from blk_at hn9.symm B6.out); have HB9 := Aside0.mk (show Below w1.heap.size w1 w9 from by rw [hn9]; exact pw_below_drewN HB8.out _); clear hn9 B8 HB8 B6; have hcy0 := (blk_cell C9.out 0).trans rfl; have hfy0 := blk_frozen C9.out 0; have hcy1 := (blk_cell C9.out 1).trans rfl; have hfy1 := blk_frozen C9.out 1; have hcy2 := (blk_cell C9.out 2).trans rfl; have hfy2 := blk_frozen C9.out 2; have hcy3 := (blk_cell C9.out 3).trans rfl; have hfy3 := blk_frozen C9.out 3; have hcy4 := (blk_cell C9.out 4).trans rfl; have hfy4 := blk_frozen C9.out 4) | (go_at_call 13; (with_reducible refine (layout_Head.calls k v2 v3 v4 b4 b5 t1 _ _ HH.out).mono ?_); rintro e wh ⟨rfl, hb⟩; clear hcy0 hfy0 hcy1 hfy1 hcy2 hfy2 hcy3 hfy3 hcy4 hfy4; have BH := Aside0.mk (blk_below B9.out hb); have CH := Aside0.mk (blk_below C9.out hb); have HBH := Aside0.mk (below_step HB9.out hb); clear hb B9 C9 HB9; have hcz0 := (blk_cell BH.out 0).trans rfl; have hfz0 := blk_frozen BH.out 0; have hcz1 := (blk_cell BH.out 1).trans rfl; have hfz1 := blk_frozen BH.out 1; have hcz2 := (blk_cell BH.out 2).trans rfl; have hfz2 := blk_frozen BH.out 2; have hcz3 := (blk_cell BH.out 3).trans rfl; have hfz3 := blk_frozen BH.out 3; have hcz4 := (blk_cell BH.out 4).trans rfl; have hfz4 := blk_frozen BH.out 4; have hcy0 := (blk_cell CH.out 0).trans rfl; have hfy0 := blk_frozen CH.out 0; have hcy1 := (blk_cell CH.out 1).trans rfl; have hfy1 := blk_frozen CH.out 1; have hcy2 := (blk_cell CH.out 2).trans rfl; have hfy2 := blk_frozen CH.out 2; have hcy3 := (blk_cell CH.out 3).trans rfl; have hfy3 := blk_frozen CH.out 3; have hcy4 := (blk_cell CH.out 4).trans rfl; have hfy4 := blk_frozen CH.out 4))
    refine bodyPost_ret (results_ct rfl _ _ g0 40 #[.int .i64 v2, .int .i64 v3, .int .i64 v4, .bool b4, .bool b5] (0, 0) _ rfl (blk_put (blk_put (blk_put (blk_put (blk_put BH.out 0 _ rfl) 1 _ rfl) 2 _ rfl) 3 _ rfl) 4 _ rfl) Tryd.underlying40 rfl (by kernel_rfl)) rfl ?_
    have HX := HE.out
    simp only [Option.some.injEq, Prod.mk.injEq] at HX
    obtain ⟨rfl, rfl, rfl, rfl, rfl, rfl⟩ := HX
    exact ⟨rfl, rdr_below (rdr_below (rdr_below (rdr_below (rdr_below (below_step HB1.out HBH.out) GE0.out 0 _) GE0.out 1 _) GE0.out 2 _) GE0.out 3 _) GE0.out 4 _⟩
   ·rw [if_neg (fun h => c1 h.2)] at H
    have c1b0 : (t1.toList == a0.toList) = false := beq_eq_false_iff_ne.mpr c1
    have c1b1 : (t1.toList != a0.toList) = true := bne_iff_ne.mpr c1
    clear c1
    have HE := Aside0.mk H
    clear H
    go_wp2_with (first | (go_at_call 44; (with_reducible refine hend.mono ?_); rintro e w9 ⟨rfl, hq⟩; obtain ⟨n9, hn9⟩ := hq; have B9 := Aside0.mk (show w9.heap[g0]? = _ from blk_at hn9.symm B8.out); have C9 := Aside0.mk (show w9.heap[g6]? = _ from blk_at hn9.symm B6.out); have HB9 := Aside0.mk (show Below w1.heap.size w1 w9 from by rw [hn9]; exact pw_below_drewN HB8.out _); clear hn9 B8 HB8 B6; have hcy0 := (blk_cell C9.out 0).trans rfl; have hfy0 := blk_frozen C9.out 0; have hcy1 := (blk_cell C9.out 1).trans rfl; have hfy1 := blk_frozen C9.out 1; have hcy2 := (blk_cell C9.out 2).trans rfl; have hfy2 := blk_frozen C9.out 2; have hcy3 := (blk_cell C9.out 3).trans rfl; have hfy3 := blk_frozen C9.out 3; have hcy4 := (blk_cell C9.out 4).trans rfl; have hfy4 := blk_frozen C9.out 4) | (go_at_call 13; (with_reducible refine (layout_Head.calls k v2 v3 v4 b4 b5 t1 _ _ HH.out).mono ?_); rintro e wh ⟨rfl, hb⟩; clear hcy0 hfy0 hcy1 hfy1 hcy2 hfy2 hcy3 hfy3 hcy4 hfy4; have BH := Aside0.mk (blk_below B9.out hb); have CH := Aside0.mk (blk_below C9.out hb); have HBH := Aside0.mk (below_step HB9.out hb); clear hb B9 C9 HB9; have hcz0 := (blk_cell BH.out 0).trans rfl; have hfz0 := blk_frozen BH.out 0; have hcz1 := (blk_cell BH.out 1).trans rfl; have hfz1 := blk_frozen BH.out 1; have hcz2 := (blk_cell BH.out 2).trans rfl; have hfz2 := blk_frozen BH.out 2; have hcz3 := (blk_cell BH.out 3).trans rfl; have hfz3 := blk_frozen BH.out 3; have hcz4 := (blk_cell BH.out 4).trans rfl; have hfz4 := blk_frozen BH.out 4; have hcy0 := (blk_cell CH.out 0).trans rfl; have hfy0 := blk_frozen CH.out 0; have hcy1 := (blk_cell CH.out 1).trans rfl; have hfy1 := blk_frozen CH.out 1; have hcy2 := (blk_cell CH.out 2).trans rfl; have hfy2 := blk_frozen CH.out 2; have hcy3 := (blk_cell CH.out 3).trans rfl; have hfy3 := blk_frozen CH.out 3; have hcy4 := (blk_cell CH.out 4).trans rfl; have hfy4 := blk_frozen CH.out 4))
    refine bodyPost_ret (results_ct rfl _ _ g0 40 #[.int .i64 0, .int .i64 0, .int .i64 0, .bool false, .bool false] (0, 0) _ rfl (blk_put (blk_put (blk_put (blk_put (blk_put BH.out 0 _ rfl) 1 _ rfl) 2 _ rfl) 3 _ rfl) 4 _ rfl) Tryd.underlying40 rfl (by kernel_rfl)) rfl ?_
    have HX := HE.out
    simp only [Option.some.injEq, Prod.mk.injEq] at HX
    obtain ⟨rfl, rfl, rfl, rfl, rfl, rfl⟩ := HX
    exact ⟨rfl, rdr_below (rdr_below (rdr_below (rdr_below (rdr_below (below_step HB1.out HBH.out) GE0.out 0 _) GE0.out 1 _) GE0.out 2 _) GE0.out 3 _) GE0.out 4 _⟩
  ·rw [if_neg (fun h => c0 h.1)] at H
   have d1 : (t2 != 0) = true := bne_iff_ne.mpr c0
   have d2 : (t2 == 0) = false := beq_eq_false_iff_ne.mpr c0
   clear c0
   have HE := Aside0.mk H
   clear H
   go_wp2_with (first | (go_at_call 44; (with_reducible refine hend.mono ?_); rintro e w9 ⟨rfl, hq⟩; obtain ⟨n9, hn9⟩ := hq; have B9 := Aside0.mk (show w9.heap[g0]? = _ from blk_at hn9.symm B8.out); have C9 := Aside0.mk (show w9.heap[g6]? = _ from blk_at hn9.symm B6.out); have HB9 := Aside0.mk (show Below w1.heap.size w1 w9 from by rw [hn9]; exact pw_below_drewN HB8.out _); clear hn9 B8 HB8 B6; have hcy0 := (blk_cell C9.out 0).trans rfl; have hfy0 := blk_frozen C9.out 0; have hcy1 := (blk_cell C9.out 1).trans rfl; have hfy1 := blk_frozen C9.out 1; have hcy2 := (blk_cell C9.out 2).trans rfl; have hfy2 := blk_frozen C9.out 2; have hcy3 := (blk_cell C9.out 3).trans rfl; have hfy3 := blk_frozen C9.out 3; have hcy4 := (blk_cell C9.out 4).trans rfl; have hfy4 := blk_frozen C9.out 4) | (go_at_call 13; (with_reducible refine (layout_Head.calls k v2 v3 v4 b4 b5 t1 _ _ HH.out).mono ?_); rintro e wh ⟨rfl, hb⟩; clear hcy0 hfy0 hcy1 hfy1 hcy2 hfy2 hcy3 hfy3 hcy4 hfy4; have BH := Aside0.mk (blk_below B9.out hb); have CH := Aside0.mk (blk_below C9.out hb); have HBH := Aside0.mk (below_step HB9.out hb); clear hb B9 C9 HB9; have hcz0 := (blk_cell BH.out 0).trans rfl; have hfz0 := blk_frozen BH.out 0; have hcz1 := (blk_cell BH.out 1).trans rfl; have hfz1 := blk_frozen BH.out 1; have hcz2 := (blk_cell BH.out 2).trans rfl; have hfz2 := blk_frozen BH.out 2; have hcz3 := (blk_cell BH.out 3).trans rfl; have hfz3 := blk_frozen BH.out 3; have hcz4 := (blk_cell BH.out 4).trans rfl; have hfz4 := blk_frozen BH.out 4; have hcy0 := (blk_cell CH.out 0).trans rfl; have hfy0 := blk_frozen CH.out 0; have hcy1 := (blk_cell CH.out 1).trans rfl; have hfy1 := blk_frozen CH.out 1; have hcy2 := (blk_cell CH.out 2).trans rfl; have hfy2 := blk_frozen CH.out 2; have hcy3 := (blk_cell CH.out 3).trans rfl; have hfy3 := blk_frozen CH.out 3; have hcy4 := (blk_cell CH.out 4).trans rfl; have hfy4 := blk_frozen CH.out 4))
   refine bodyPost_ret (results_ct rfl _ _ g0 40 #[.int .i64 0, .int .i64 0, .int .i64 0, .bool false, .bool false] (0, 0) _ rfl (blk_put (blk_put (blk_put (blk_put (blk_put BH.out 0 _ rfl) 1 _ rfl) 2 _ rfl) 3 _ rfl) 4 _ rfl) Tryd.underlying40 rfl (by kernel_rfl)) rfl ?_
   have HX := HE.out
   simp only [Option.some.injEq, Prod.mk.injEq] at HX
   obtain ⟨rfl, rfl, rfl, rfl, rfl, rfl⟩ := HX
   exact ⟨rfl, rdr_below (rdr_below (rdr_below (rdr_below (rdr_below (below_step HB1.out HBH.out) GE0.out 0 _) GE0.out 1 _) GE0.out 2 _) GE0.out 3 _) GE0.out 4 _⟩
 ·have q5 := rd_other e11
  have q5' : endOf a0 (tk a0 4 (tk a0 4 (tk a0 2 (tk a0 1 (0, 0)).2).2).2).2 ≠ 0 := q5
  generalize endOf a0 (tk a0 4 (tk a0 4 (tk a0 2 (tk a0 1 (0, 0)).2).2).2).2 = ev at hend q5'
  have d1 : (ev != 0) = true := bne_iff_ne.mpr q5'
  have HE := Aside0.mk (show some (0, 0, 0, false, false, 4) = some (r1, r2, r3, r4, r5, r6) from by have H := HF.out; unfold layout_ReadHead.f at H; rw [if_neg e11, if_pos hsz] at H; exact H)
  clear e11 HF HV1 HV2 HV3 HV4 HV5 HV6
  clear q5 q5'
  go_wp2_with (go_at_call 44; (with_reducible refine hend.mono ?_); rintro e w9 ⟨rfl, hq⟩; obtain ⟨n9, hn9⟩ := hq; have B9 := Aside0.mk (show w9.heap[g0]? = _ from blk_at hn9.symm B8.out); have HB9 := Aside0.mk (show Below w1.heap.size w1 w9 from by rw [hn9]; exact pw_below_drewN HB8.out _); clear hn9 B8 HB8; have hcy0 := (blk_cell B9.out 0).trans rfl; have hfy0 := blk_frozen B9.out 0; have hcy1 := (blk_cell B9.out 1).trans rfl; have hfy1 := blk_frozen B9.out 1; have hcy2 := (blk_cell B9.out 2).trans rfl; have hfy2 := blk_frozen B9.out 2; have hcy3 := (blk_cell B9.out 3).trans rfl; have hfy3 := blk_frozen B9.out 3; have hcy4 := (blk_cell B9.out 4).trans rfl; have hfy4 := blk_frozen B9.out 4)
  refine bodyPost_ret (results_ct rfl _ _ g0 40 #[.int .i64 0, .int .i64 0, .int .i64 0, .bool false, .bool false] (0, 0) _ rfl (blk_put (blk_put (blk_put (blk_put (blk_put B9.out 0 _ rfl) 1 _ rfl) 2 _ rfl) 3 _ rfl) 4 _ rfl) Tryd.underlying40 rfl (by kernel_rfl)) rfl ?_
  have HX := HE.out
  simp only [Option.some.injEq, Prod.mk.injEq] at HX
  obtain ⟨rfl, rfl, rfl, rfl, rfl, rfl⟩ := HX
  exact ⟨rfl, rdr_below (rdr_below (rdr_below (rdr_below (rdr_below (below_step HB1.out HB9.out) GE0.out 0 _) GE0.out 1 _) GE0.out 2 _) GE0.out 3 _) GE0.out 4 _⟩

end Go.Proofs.YtbdfmjgndeigpaaDoor.P
