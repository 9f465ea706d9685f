/- ArchiveNil of layer 26 answers true for every input, and its input reads as it did. No condition. The call is run, for true and for false, by an evaluator over abstract memory that is proved sound against the machine. -/
import Derived.Test.YtbaaklcoafgcdaaGreatRows
import Derived.Test.YtbaaklcoafgcdaaGreatEvFin
import Derived.WalkKit
import Derived.ProofKit
import Derived.OpenShut
import Derived.ChangeOld
import Derived.Below
import Derived.SizedLaws
import Derived.ReadAgain
import Derived.Carry
namespace Go.Proofs.YtbaaklcoafgcdaaGreat.archiveNil
open Go.ChangeShapes Go.WideShapes Go.ChangeAt Go.RowKit
set_option linter.unusedVariables false
theorem own : ownKnob Tryz.prog.godebug = none := by kernel_rfl
theorem laidOut : laidOutB Tryz.prog = true := by kernel_rfl
noncomputable def cx : Go.Ev.Cx := Go.Ev.Cx.of Tryz.prog [] []
set_option maxRecDepth 1000000 in
theorem run_t : Go.Ev.isTrue (Go.Ev.runA cx 100000 3 [.bool true] Go.Ev.H0) = true := by kernel_rfl
set_option maxRecDepth 1000000 in
theorem run_f : Go.Ev.isTrue (Go.Ev.runA cx 100000 3 [.bool false] Go.Ev.H0) = true := by kernel_rfl
theorem calls (b : Bool) (w : World) : Calls Tryz.prog 3 #[.bool b] w fun e w' => e = .returned (.bool true) ∧ Below w.heap.size w w' := by
  have h : Go.Ev.isTrue (Go.Ev.runA cx 100000 3 [.bool b] Go.Ev.H0) = true := by
    cases b
    · exact run_f
    · exact run_t
  obtain ⟨H', h⟩ := Go.Ev.ok_of_true h
  exact Go.Ev.run_calls (C := cx) (Go.Ev.cx_ok Tryz.prog Tryz.checked.mixed) h (vs := #[.bool b]) rfl (fun _ => rfl) w
set_option maxRecDepth 100000 in
theorem lifted (os : Os) (started : os.Started) (H : Type) (enc : TypeId × Value → H) :
    ReturnsInHanded {} Tryz.checked os 3 .any (Rows.archiveNilSpec.pre6 enc Tryz.prog Tryz.f3 Rows.archiveNilRow.domain false) (Rows.archiveNilSpec.post enc Tryz.prog Tryz.f3 false true false false) := by
  refine returnsInHanded_of_change_sized (C := Tryz.checked) own started (by kernel_rfl) Tryz.func3
    (ChangeSpec.witness6 (enc := enc) (C := Tryz.checked) false ⟨#[], #[.bool false], []⟩ 8 (by kernel_rfl) (by kernel_rfl) (by kernel_rfl) (by kernel_rfl)) ?_
  intro W base args ds gs before hval0 hW hcnd hsz0 _
  have hval : ∀ (j : Nat) t v, Tryz.f3.params[j]? = some t → args[j]? = some v → Value.okWide Tryz.prog W .any base t v := hval0
  have hW' := hW
  obtain ⟨p, q, hA0, hV, rfl, hfz, hnd⟩ := hW
  have hA : DataW.TrodAll enc Tryz.prog W 0 (fun _ => true) true Tryz.f3.params.toList args.toList ds p := hA0
  rw [Tryz.params3] at hA hval
  obtain ⟨v0, vs0, d0, ds0, p0, q0, hargs, rfl, rfl, h0, r0⟩ := trodAll_cons hA
  obtain ⟨rfl, rfl, rfl⟩ := trodAll_nil r0
  obtain rfl : args = #[v0] := by cases args; simp_all
  obtain ⟨rfl, rfl⟩ := trodVars_none hV
  have k0 := h0
  have lt0 : ∀ x ∈ p0, x.block < W.heap.size := by obtain ⟨m, hm⟩ := k0; exact DataW.trod_lt m _ _ _ hm
  obtain ⟨b, rfl, rfl, rfl⟩ := open_bool Tryz.underlying4 (hval 0 4 v0 rfl rfl) h0
  clear hA0 hval0 hsz0
  refine (calls b W).mono fun e W' ⟨he, bel⟩ => ?_
  subst he
  exact ⟨_, rfl, _, _, _, [], _, [], hW', trodAll_mk1 (shut_bool Tryz.underlying4 _), trodAll_mk1 (shut_bool Tryz.underlying4 _), rfl, bel.frame _, fun h => by cases h⟩
theorem over : Rows.archiveNilRow.holds Tryz.pinned (OpenSpec.ofChange Rows.archiveNilSpec) :=
  OpenClaim.holds_of_wide 3 Tryz.f3 rfl rfl rfl rfl rfl rfl rfl ⟨rfl, rfl, rfl, rfl, rfl⟩ rfl rfl rfl rfl rfl (by kernel_rfl) Tryz.func3 (by kernel_rfl)
    (of_decide_eq_true (by kernel_rfl)) (by unfold Func.isWrapper; first | (rw [if_pos (by decide +kernel)]; kernel_rfl) | (rw [if_neg (by decide +kernel)]; exact ⟨rfl, rfl⟩))
    (fun os started H enc _ => lifted os started H enc)
theorem proved : Rows.ArchiveNilSaid := over
#print axioms proved
end Go.Proofs.YtbaaklcoafgcdaaGreat.archiveNil
namespace Go.Proofs.YtbaaklcoafgcdaaGreat
/-- The row, under a short name, for the claim. -/
theorem archiveNil_holds : Rows.ArchiveNilSaid := archiveNil.proved
end Go.Proofs.YtbaaklcoafgcdaaGreat
