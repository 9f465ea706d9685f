import Derived.Test.YtbaaklcoafgcdaaGreatEvCc
import Derived.Below
import Derived.Eval
set_option linter.unusedVariables false
set_option linter.unusedSimpArgs false
namespace Go.Ev
open Go.RowKit (Below)
/-! ### A whole call -/
noncomputable def E0 : Env := ⟨fun _ => none, fun _ => 0, fun _ _ => none⟩
theorem hr0 (P : Program) (w : World) : HR P E0 H0 w :=
  ⟨fun i o h _ => (by cases h), fun i j a b x h _ _ _ _ _ => (by cases h), fun i _ => ⟨rfl, fun _ => rfl⟩⟩
/-- a call over nothing in memory: it returns, and leaves memory as it was -/
theorem run_calls {C : Cx} (ok : CxOk C) {fuel : Nat} {f : FuncId} {args : List AVal} {v : AVal} {H' : AHp} (h : runA C fuel f args H0 = .ok v H') {vs : Array Value} (hg : gams E0 args = some vs.toList) {u : Value} (hu : ∀ E, gam E v = some u) (w : World) :
    Calls C.P f vs w fun e w' => e = .returned u ∧ Below w.heap.size w w' := by
  intro cs
  obtain ⟨E', w', u', ⟨fr, h1, h2, h3⟩, h4, p⟩ := enterA_sound ok (exec_ok ok fuel) h (hr0 C.P w) hg cs
  rw [hu E'] at h4; cases h4
  refine ⟨.returned u, w', fr, ⟨rfl, p.os, p.tape, p.output, p.size, fun k hk => p.block k hk ?_⟩, h1, ?_, h3⟩
  · rintro ⟨i, o, hi, _⟩
    cases hi
  · exact h2
theorem ok_of_true {r : R} (h : isTrue r = true) : ∃ H, r = .ok (.bool true) H := by
  unfold isTrue at h
  split at h
  · rename_i b H; subst h; exact ⟨H, rfl⟩
  · cases h
/-! ### A program's tables -/
theorem tab_get {α : Type} {d : Nat} : ∀ (l : List α) (i : Nat) (t : Tr α) (j : Nat) (a : α), (Tr.ofList d l i t).get j = some a → t.get j = some a ∨ ∃ k, j = i + k ∧ l[k]? = some a
  | [], i, t, j, a, h => .inl h
  | x :: l, i, t, j, a, h => by
    have hd : Tr.ofList d (x :: l) i t = Tr.ofList d l (Nat.succ i) (Tr.set d t i x) := rfl
    rw [hd] at h
    rcases tab_get l (Nat.succ i) _ j a h with h1 | ⟨k, h1, h2⟩
    · rcases Tr.set_some _ h1 with ⟨rfl, rfl⟩ | ⟨_, h1⟩
      · exact .inr ⟨0, rfl, rfl⟩
      · exact .inl h1
    · exact .inr ⟨k + 1, by omega, by simpa using h2⟩
theorem cx_ok (P : Program) (hm : P.follows .mixedOrders = true) : CxOk (Cx.of P [] []) := by
  refine ⟨fun t i h => ?_, fun f fn h => ?_, fun t h => (by cases h), hm, fun f => rfl, fun f h args w => ?_⟩
  · rcases tab_get _ _ _ _ _ h with h | ⟨k, h1, h2⟩
    · cases h
    · have h1 : t = k := by omega
      subst h1
      show P.info? t = some i
      simp at h2
      have hlt : t < P.types.size := (Array.getElem?_eq_some_iff.1 h2).1
      show Tables.info? _ t = some i
      unfold Tables.info?
      rw [if_pos hlt]
      exact h2
  · rcases tab_get _ _ _ _ _ h with h | ⟨k, h1, h2⟩
    · cases h
    · have h1 : f = k := by omega
      subst h1
      simp at h2
      exact h2
  · unfold callable at h
    split at h
    · rename_i fn hf
      split at h
      · rename_i c hc
        have hfs : P.funcs[f]? = some fn := by
          rcases tab_get _ _ _ _ _ hf with h | ⟨k, h1, h2⟩
          · cases h
          · rw [Nat.zero_add] at h1
            subst h1
            simpa using h2
        have hn : (fn.name == "runtime.NumGoroutine") = false := by
          cases hq : (fn.name == "runtime.NumGoroutine") with
          | false => rfl
          | true => rw [hq] at h; cases h
        show (callFunc f args).run P w = _
        have hb : fn.body.isNone = false := by rw [hc]; rfl
        unfold callFunc
        simp only [Sem.run_bind, run_program, Result.andThen_ok]
        rw [hfs]
        simp [hn, hb]
      · cases h
    · cases h
end Go.Ev
