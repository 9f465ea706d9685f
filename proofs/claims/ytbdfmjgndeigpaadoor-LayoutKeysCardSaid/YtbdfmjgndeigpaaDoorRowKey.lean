-- A struct of a number, two texts and a slice of numbers among a law's arguments (api.Key), opened
import Derived.Test.YtbdfmjgndeigpaaDoorWAll
import Derived.Lib.SmallJoins
import Derived.ChangeSlices
namespace Go.Proofs.YtbdfmjgndeigpaaDoor.RowKey
open Go.ChangeShapes Go.WideShapes Go.RowKit Go.Joins Go.Deep Go.Proofs.YtbdfmjgndeigpaaDoorW.PrintWords
theorem open_key {H : Type} {enc : TypeId × Value → H} {P : Program} {W : World} {base b0 : Nat} {spare : Nat → Bool} {held : Bool} {r : Reach} {t e : TypeId} {f0 f1 f2 f3 : Field} {v : Value} {d : DataW H} {ps : List MemPlace}
    (hs : P.underlying t = some (.struct #[f0, f1, f2, f3])) (hone : oneCellFields P #[f0, f1, f2, f3] = true) (hC : P.cellsOf t = 4)
    (h0 : P.underlying f0.type = some (.int .i64)) (h1 : P.underlying f1.type = some .string) (h2 : P.underlying f2.type = some .string) (h3 : P.underlying f3.type = some (.slice e)) (he : P.underlying e = some (.int .i64)) (hc : P.cellsOf e = 1)
    (hv : Value.okWide P W r b0 t v) (h : DataW.Trod enc P W base spare held t v d ps) :
    ∃ (a : Int) (b c : ByteArray) (A : Option Addr) (cap : Nat) (l : List Int), v = .agg #[.int .i64 a, .string b, .string c, .slice A l.length cap] ∧ l.length ≤ cap ∧ Kd.C (Kd.int .i64) W A l.length l ∧ (Lit.int .i64 a).wf = true ∧ b.size ≤ 9223372036854775807 ∧ c.size ≤ 9223372036854775807 ∧ ∀ x ∈ l, (Lit.int .i64 x).wf = true := by
  obtain ⟨v0, v1, v2, v3, y0, y1, y2, y3, n, rfl, _, _, g0, g1, g2, g3⟩ := open_agg4 hs hone hC hv h
  obtain ⟨a, e0, _, wa⟩ := DataW.trod_int h0 g0
  obtain ⟨b, e1, _, wb⟩ := DataW.trod_string h1 g1
  obtain ⟨c, e2, _, wc⟩ := DataW.trod_string h2 g2
  simp only [List.cons.injEq, and_true] at e0 e1 e2
  subst e0 e1 e2
  unfold maxLen at wb wc
  rcases open_ints h3 he hc g3 with ⟨hcs, _⟩ | ⟨x, len, cap, zs, hcs, _, hl, hm, hz, _, hcell, hw⟩
  · simp only [List.cons.injEq, and_true] at hcs
    subst hcs
    exact ⟨a, b, c, none, 0, [], rfl, Nat.le_refl _, Kd.C_nil _ _, wa, wb, wc, fun s h => absurd h (by simp)⟩
  · simp only [List.cons.injEq, and_true] at hcs
    subst hcs
    have hl2 : len ≤ zs.length := by
      rw [hz]
      split
      · exact hl
      · exact Nat.le_refl _
    have hlen : (zs.take len).length = len := by rw [List.length_take]; omega
    have hm' : len ≤ 9223372036854775807 := by unfold maxLen at hm; omega
    refine ⟨a, b, c, some x, cap, zs.take len, by rw [hlen], by rw [hlen]; exact hl, ?_, wa, wb, wc, fun s h => hw s (List.mem_of_mem_take h)⟩
    rw [hlen]
    refine Kd.C_of_reads (enc := Value.int .i64) (d := (0 : Int)) (h1 := fun _ => rfl) ⟨hlen, hm', fun hp => ⟨_, rfl, fun i hi => ?_⟩⟩
    rw [hcell i (by omega)]
    have e1 : (zs.take len).getD i 0 = zs.getD i 0 := by
      rw [List.getD_eq_getElem?_getD, List.getD_eq_getElem?_getD, List.getElem?_take, if_pos hi]
    rw [e1]
end Go.Proofs.YtbdfmjgndeigpaaDoor.RowKey
