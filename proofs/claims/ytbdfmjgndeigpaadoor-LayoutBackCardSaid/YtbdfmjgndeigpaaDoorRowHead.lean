-- A struct of a number, a struct of two numbers, and two bools among a law's arguments (api.Head), opened
import Derived.Test.YtbdfmjgndeigpaaDoorWAll
import Derived.Lib.SmallJoins
import Derived.ChangeSlices
namespace Go.Proofs.YtbdfmjgndeigpaaDoor.RowHead
open Go.ChangeShapes Go.WideShapes Go.RowKit Go.Joins Go.Deep Go.Proofs.YtbdfmjgndeigpaaDoorW.PrintWords
theorem array5 {α : Type} {cs : Array α} (h : cs.size = 5) : ∃ c0 c1 c2 c3 c4, cs = #[c0, c1, c2, c3, c4] := by
  obtain ⟨l⟩ := cs
  match l, h with
  | [c0, c1, c2, c3, c4], _ => exact ⟨c0, c1, c2, c3, c4, rfl⟩
theorem open_head {H : Type} {enc : TypeId × Value → H} {P : Program} {W : World} {base b0 : Nat} {spare : Nat → Bool} {held : Bool} {r : Reach} {t : TypeId} {f0 f1 f2 f3 g0 g1 : Field} {v : Value} {d : DataW H} {ps : List MemPlace}
    (hs : P.underlying t = some (.struct #[f0, f1, f2, f3])) (hC : P.cellsOf t = 5) (ho : f0.offset = 0 ∧ f1.offset = 1 ∧ f2.offset = 3 ∧ f3.offset = 4) (hc : P.cellsOf f0.type = 1 ∧ P.cellsOf f1.type = 2 ∧ P.cellsOf f2.type = 1 ∧ P.cellsOf f3.type = 1)
    (h0 : P.underlying f0.type = some (.int .i64)) (h1 : P.underlying f1.type = some (.struct #[g0, g1])) (h2 : P.underlying f2.type = some .bool) (h3 : P.underlying f3.type = some .bool)
    (ho1 : g0.offset = 0 ∧ g1.offset = 1) (hc1 : P.cellsOf g0.type = 1 ∧ P.cellsOf g1.type = 1) (k0 : P.underlying g0.type = some (.int .i64)) (k1 : P.underlying g1.type = some (.int .i64))
    (hv : Value.okWide P W r b0 t v) (h : DataW.Trod enc P W base spare held t v d ps) :
    ∃ (a b c : Int) (g n : Bool), v = .agg #[.int .i64 a, .int .i64 b, .int .i64 c, .bool g, .bool n] ∧ (Lit.int .i64 a).wf = true ∧ (Lit.int .i64 b).wf = true ∧ (Lit.int .i64 c).wf = true := by
  obtain ⟨cs, rfl, hsz⟩ := okWide_struct hs hv
  obtain ⟨c0, c1, c2, c3, c4, rfl⟩ := array5 (hsz.trans hC)
  obtain ⟨fuel, hf⟩ := h
  obtain ⟨y0, y1, y2, y3, n, hx, _, t0, t1, t2, t3⟩ := trod_struct4 hs hf
  rw [ho.1, hc.1] at t0
  rw [ho.2.1, hc.2.1] at t1
  rw [ho.2.2.1, hc.2.2.1] at t2
  rw [ho.2.2.2, hc.2.2.2] at t3
  obtain ⟨z0, z1, m, _, _, s0, s1⟩ := trod_struct2 h1 t1
  rw [ho1.1, hc1.1] at s0
  rw [ho1.2, hc1.2] at s1
  obtain ⟨a, e0, _, wa⟩ := DataW.trod_int h0 t0
  obtain ⟨b, e1, _, wb⟩ := DataW.trod_int k0 s0
  obtain ⟨c, e2, _, wc⟩ := DataW.trod_int k1 s1
  obtain ⟨g, e3, _⟩ := DataW.trod_bool h2 t2
  obtain ⟨n', e4, _⟩ := DataW.trod_bool h3 t3
  simp [Value.cells] at e0 e1 e2 e3 e4
  subst e0 e1 e2 e3 e4
  exact ⟨a, b, c, g, n', rfl, wa, wb, wc⟩
end Go.Proofs.YtbdfmjgndeigpaaDoor.RowHead
