-- by xprint (this session's program over the kit's printer)
import Derived.Test.YtbdfmjgndeigpaaDoorPx0
import Derived.Outline
import Derived.WalkSpells
import Derived.Laws.BitsAllLaws
import Derived.Lib.Strings
namespace Go.Proofs.YtbdfmjgndeigpaaDoor.P
open Go.RowKit Go.Proofs.YtbdfmjgndeigpaaDoorW.PrintWords Go.Proofs.YtbdfmjgndeigpaaDoorW.PrintLast Go.Proofs.YtbdfmjgndeigpaaDoorW.PrintMore
attribute [local go_sem] max2_int min2_int max_two min_two max_three min_three max_four min_four   -- for this text's walks alone
set_option linter.unusedVariables false
set_option linter.unusedSimpArgs false

/-! ### Bytes that were made of a text, and are written (ref02.turned, first) -/
structure Byt (w : World) (g n : Nat) (xs : List Int) : Prop where
 len : xs.length = n
 row : ∃ cs m, w.heap[g]? = some (.cells cs 5 (m, m + 1)) ∧ n ≤ m ∧ ∀ j, j < n → cs[j]? = some (.int .u8 (xs.getD j 0))
theorem Byt.cell {w : World} {g n : Nat} {xs : List Int} (h : Byt w g n xs) (j : Nat) (hj : j < n) : w.cell? ⟨g, j, none⟩ = some (.int .u8 (xs.getD j 0)) := by
 obtain ⟨cs, m, hb, hm, hc⟩ := h.row
 rw [cell_of_row w g j cs _ _ hb]
 exact hc j hj
theorem Byt.fr {w : World} {g n : Nat} {xs : List Int} (h : Byt w g n xs) (j : Nat) (hj : j < n) : w.frozen? ⟨g, j, none⟩ = false := by
 obtain ⟨cs, m, hb, hm, hc⟩ := h.row
 unfold World.frozen?
 rw [hb]
 show (decide (m ≤ j) && decide (j < m + 1)) = false
 rw [decide_eq_false (by omega : ¬ m ≤ j)]
 rfl
theorem Byt.new (w : World) (s : ByteArray) : Byt (Lib.bytesWorld w 5 s) w.heap.size s.size (bytesOf s) := by
 refine ⟨bytesOf_length s, _, _, Lib.bytesWorld_at_new w _ s, ?_, fun j hj => ?_⟩
 ·unfold Lib.bytesCells
  rw [Array.size_append, Array.size_map]
  exact Nat.le_add_right _ _
 ·have h := Lib.bytesWorld_cell w 5 s j hj
  rw [cell_of_row _ _ j _ _ _ (Lib.bytesWorld_at_new w _ s)] at h
  rw [h]
  have h' : j < s.data.toList.length := by rw [data_length]; exact hj
  simp [bytesOf, List.getD_eq_getElem?_getD, List.getElem?_eq_getElem h']
theorem Byt.set {w : World} {g n : Nat} {xs : List Int} (h : Byt w g n xs) (i : Nat) (hi : i < n) (v : Int) : Byt (w.setCell ⟨g, i, none⟩ (.int .u8 v)) g n (xs.set i v) := by
 obtain ⟨cs, m, hb, hm, hc⟩ := h.row
 refine ⟨by rw [List.length_set]; exact h.len, cs.setIfInBounds i (.int .u8 v), m, ?_, hm, fun j hj => ?_⟩
 ·simp [World.setCell, Array.getElem?_modify, hb]
 ·by_cases e : i = j
  ·subst e
   have hl := h.len
   have h1 : i < cs.size := by
    have := hc i hi
    exact (Array.getElem?_eq_some_iff.1 this).1
   simp [Array.getElem?_setIfInBounds, h1, List.getD_eq_getElem?_getD, List.getElem?_set, hl, hi]
  ·rw [Array.getElem?_setIfInBounds_ne e, hc j hj]
   simp [List.getD_eq_getElem?_getD, List.getElem?_set, e]
theorem Byt.reads {w : World} {g n : Nat} {xs : List Int} (h : Byt w g n xs) (hn : n ≤ 9223372036854775807) : ReadsInt w .u8 (some ⟨g, 0, none⟩) n xs := by
 refine ⟨h.len, hn, fun _ => ⟨_, rfl, fun j hj => ?_⟩⟩
 rw [add_plain]
 exact h.cell j hj
theorem Byt.drewN {w : World} {g n : Nat} {xs : List Int} (h : Byt w g n xs) (m : Nat) : Byt (w.drewN m) g n xs := ⟨h.len, h.row⟩
def turnL (xs : List Int) (d : Bool) : List Int :=
 if d = true then (xs.set 0 (Go.bits .xor .u8 (xs.getD 0 0) 128)).map (fun c => 255 - c) else xs.set 0 (Go.bits .xor .u8 (xs.getD 0 0) 128)
def r02_turned.f (a0 : ByteArray) (a1 : Bool) : Option ByteArray := if 1 ≤ a0.size ∧ a0.size ≤ 1000000 then some (strOfNums (turnL (bytesOf a0) a1)) else none
theorem bytesOf_range3 {s : ByteArray} {c : Int} (h : c ∈ bytesOf s) : 0 ≤ c ∧ c ≤ 255 := by
 unfold bytesOf at h
 obtain ⟨b, _, rfl⟩ := List.mem_map.1 h
 have := b.toNat_lt
 omega
theorem xor128_range {c : Int} (g0 : 0 ≤ c) (g1 : c ≤ 255) : 0 ≤ Go.bits .xor .u8 c 128 ∧ Go.bits .xor .u8 c 128 ≤ 255 := by
 rw [u8_xor c 128 g0 (by omega) (by omega) (by omega)]
 have : c.toNat ^^^ (128 : Int).toNat < 2 ^ 8 := Nat.xor_lt_two_pow (by omega) (by decide)
 omega
theorem getD_mem {xs : List Int} {j : Nat} (h : j < xs.length) : xs.getD j 0 ∈ xs := by
 rw [List.getD_eq_getElem?_getD, List.getElem?_eq_getElem h]
 exact List.getElem_mem h
/-- The first k bytes turned. -/
def flipK (xs : List Int) (k : Nat) : List Int := (xs.take k).map (fun c => 255 - c) ++ xs.drop k
theorem flipK_get {xs : List Int} {k : Nat} (h : k < xs.length) : (flipK xs k).getD k 0 = xs.getD k 0 := by
 unfold flipK
 have hl : ((xs.take k).map (fun c => 255 - c)).length = k := by rw [List.length_map, List.length_take]; omega
 rw [List.getD_eq_getElem?_getD, List.getElem?_append_right (by omega), hl, Nat.sub_self, List.getElem?_drop, Nat.add_zero, List.getD_eq_getElem?_getD]
theorem flipK_step {xs : List Int} {k : Nat} (h : k < xs.length) : (flipK xs k).set k (255 - xs.getD k 0) = flipK xs (k + 1) := by
 unfold flipK
 have hl : ((xs.take k).map (fun c => 255 - c)).length = k := by rw [List.length_map, List.length_take]; omega
 rw [List.set_append_right _ _ (by omega), hl, Nat.sub_self, List.drop_eq_getElem_cons h, List.set_cons_zero, List.take_add_one, List.getElem?_eq_getElem h, List.map_append, List.append_assoc, List.getD_eq_getElem?_getD, List.getElem?_eq_getElem h]
 rfl
theorem flipK_all {xs : List Int} : flipK xs xs.length = xs.map (fun c => 255 - c) := by
 unfold flipK
 rw [List.take_length, List.drop_length, List.append_nil]
set_option maxHeartbeats 8000000 in
set_option maxRecDepth 1000000 in
theorem r02_turned.calls (a0 : ByteArray) (a1 : Bool) (r : ByteArray) (w : World) (h : r02_turned.f a0 a1 = some r) :
  Calls Tryd.prog 88 #[.string a0, .bool a1] w fun e w' => e = .returned (.string r) ∧ Below w.heap.size w w' := by
 unfold r02_turned.f at h
 by_cases hs : 1 ≤ a0.size ∧ a0.size ≤ 1000000
 ·rw [if_pos hs] at h
  have h := Option.some.inj h
  have kb := print_bytes (P := Tryd.prog) 9 73 5 Tryd.underlying9 Tryd.underlying73 Tryd.underlying5 a0 w
  have hby := Byt.new w a0
  have hB : Below w.heap.size w (Lib.bytesWorld w 5 a0) := bytes_below (Below.refl _ _) (Nat.le_refl _) _ _
  have hra : ∀ x ∈ bytesOf a0, 0 ≤ x ∧ x ≤ 255 := fun x hx => bytesOf_range3 hx
  have hxl := bytesOf_length a0
  generalize bytesOf a0 = xs at h hby hra hxl
  generalize Lib.bytesWorld w 5 a0 = w1 at kb hby hB
  generalize hg : w.heap.size = g at kb hby
  have hx0 := hra _ (getD_mem (xs := xs) (j := 0) (by omega))
  have hy := xor128_range hx0.1 hx0.2
  have hyy : Go.bits .xor .u8 (xs.getD 0 0) 128 = Go.bits .xor .u8 (xs.getD 0 0) 128 := rfl
  have hc0 := hby.cell 0 (by omega)
  have hf0 := hby.fr 0 (by omega)
  generalize hX : xs.getD 0 0 = x0 at hc0 hx0 hy hyy
  have hby2 := hby.set 0 (by omega) (Go.bits .xor .u8 x0 128)
  have hx0' := hx0.1
  have hx0'' := hx0.2
  have hgw : w.heap.size ≤ g := by omega
  have HG := Aside0.mk hg
  clear hg
  have hB2 : Below w.heap.size w (w1.setCell ⟨g, 0, none⟩ (.int .u8 (Go.bits .xor .u8 x0 128))) := by
   exact hB.setCell hgw _
  have hr : turnL xs a1 = if a1 = true then (xs.set 0 (Go.bits .xor .u8 x0 128)).map (fun c => 255 - c) else xs.set 0 (Go.bits .xor .u8 x0 128) := by
   unfold turnL
   rw [hX]
  rw [hr] at h
  have hrs : ∀ c ∈ xs.set 0 (Go.bits .xor .u8 x0 128), 0 ≤ c ∧ c ≤ 255 := by
   intro c hc
   rcases List.mem_or_eq_of_mem_set hc with hc | hc
   ·exact hra c hc
   ·rw [hc]; exact hy
  have hls : (xs.set 0 (Go.bits .xor .u8 x0 128)).length = a0.size := by rw [List.length_set]; exact hxl
  go_enter Tryd.func88, Tryd.ntmps88
  go_upto_region 3 with (fail)
  generalize w1.setCell ⟨g, 0, none⟩ (.int .u8 (Go.bits .xor .u8 x0 128)) = w2 at hby2 hB2 ⊢
  generalize xs.set 0 (Go.bits .xor .u8 x0 128) = ys at h hby2 hrs hls
  have HBY := Aside0.mk hby2
  have HB := Aside0.mk hB2
  have H := Aside0.mk h
  have HL := Aside0.mk hls
  clear h hr hra hxl hX hby hby2 hB hB2 hc0 hf0 hy hyy hls kb
  cases a1 with
  | false =>
   have hcs := string_of_reads (P := Tryd.prog) (c := grownCap w a0.size 0 5) Tryd.underlying73 Tryd.underlying5 Tryd.underlying9 (HBY.out.reads (by omega))
   go_wp2
   go_loopw [6] (fun i wr => i = .int .i64 0 ∧ wr = w2) (fun _ _ => 0)
   case atStart => exact ⟨rfl, rfl⟩
   case round =>
    obtain ⟨rfl, rfl⟩ := hrel
    go_wp2
    go_ret
    exact ⟨by first | rfl | (rw [← H.out]; rfl), by first | exact HB.out | (rw [← HG.out]; exact HB.out)⟩
  | true =>
   go_wp2
   go_loopw [6] (fun i wr => ∃ k : Nat, i = .int .i64 k ∧ k ≤ a0.size ∧ Byt wr g a0.size (flipK ys k) ∧ Below w.heap.size w wr) (fun i _ => a0.size - (intOf i).toNat)
   case atStart => exact ⟨0, rfl, Nat.zero_le _, HBY.out, HB.out⟩
   case round =>
    obtain ⟨k, rfl, hk, hbk, hBk⟩ := hrel
    have HBK := Aside0.mk hBk
    by_cases hlt : k < a0.size
    ·have hc := hbk.cell k hlt
     have hf := hbk.fr k hlt
     have hkl : k < ys.length := by have h_ := HL.out; omega
     rw [flipK_get hkl] at hc
     have hst := flipK_step hkl
     have hx := hrs _ (getD_mem hkl)
     have HBY2 := Aside0.mk (hbk.set k hlt (255 - ys.getD k 0))
     rw [hst] at HBY2
     clear hbk hBk hst hkl
     generalize ys.getD k 0 = x at hc hx HBY2
     have hx0 := hx.1
     have hx1 := hx.2
     go_wp2
     go_roundw
     case rel => exact ⟨k + 1, by go_num, by omega, HBY2.out, HBK.out.setCell hgw _⟩
     case measure => simp [intOf]; omega
    ·have hka : k = a0.size := by omega
     rw [hka] at hbk
     have e : flipK ys a0.size = ys.map (fun c => 255 - c) := by have h_ := HL.out; rw [← h_]; exact flipK_all
     rw [e] at hbk
     have hcs := string_of_reads (P := Tryd.prog) (c := grownCap w a0.size 0 5) Tryd.underlying73 Tryd.underlying5 Tryd.underlying9 (hbk.reads (by omega))
     have dl : decide ((k : Int) < (a0.size : Int)) = false := decide_eq_false (by omega)
     have dl2 : decide (k < a0.size) = false := decide_eq_false (by omega)
     clear hbk hBk e hka
     go_wp2
     go_ret
     exact ⟨by first | rfl | (rw [← H.out]; rfl), by first | exact HBK.out | (rw [← HG.out]; exact HBK.out)⟩
 ·rw [if_neg hs] at h
  cases h

end Go.Proofs.YtbdfmjgndeigpaaDoor.P
