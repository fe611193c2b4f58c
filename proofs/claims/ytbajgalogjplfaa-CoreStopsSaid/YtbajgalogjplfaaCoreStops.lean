/-
  'Rows.CoreStopsSaid': nothing that may not pass does. Conditions: none but those of the row itself.
  By a symbolic evaluator whose soundness is proved in the texts 'YtbajgalogjplfaaSy..'; the kernel runs it on the law's code.
-/
import Derived.Test.YtbajgalogjplfaaRows
import Derived.Test.YtbajgalogjplfaaSyX
import Derived.Test.YtbajgalogjplfaaCoreStopsP0
import Derived.Test.YtbajgalogjplfaaCoreStopsP1
import Derived.Test.YtbajgalogjplfaaCoreStopsP2
import Derived.Test.YtbajgalogjplfaaCoreStopsP3
import Derived.Test.YtbajgalogjplfaaCoreStopsP4
import Derived.Test.YtbajgalogjplfaaCoreStopsP5
import Derived.Test.YtbajgalogjplfaaCoreStopsP6
import Derived.WalkKit
import Derived.ProofKit
import Derived.OpenShut
namespace Go.Proofs.Ytbajgalogjplfaa.coreStops
open Go.ChangeShapes Go.WideShapes Go.ChangeAt Go.RowKit

theorem own : ownKnob Try.prog.godebug = none := by kernel_rfl
theorem mixed : Try.prog.follows .mixedOrders = true := by kernel_rfl
theorem entered : Sy.Enters Try.prog := Sy.enters_of (by kernel_rfl)
theorem found : ∀ j, j ≤ ([(0, 8), (0, 9), (0, 10), (0, 11), (0, 12), (0, 13)] : List (Nat × Int)).length → Sy.lawPart Try.prog (Sy.memos Try.prog 400 [7, 28]) [] 400 3 [24, 26, 3, 32] [(0, 8), (0, 9), (0, 10), (0, 11), (0, 12), (0, 13)] j = true := fun j hj => match j, hj with
  | 0, _ => part0
  | 1, _ => part1
  | 2, _ => part2
  | 3, _ => part3
  | 4, _ => part4
  | 5, _ => part5
  | 6, _ => part6
  | n + 7, h => absurd h (by simp only [List.length_cons, List.length_nil]; omega)

set_option maxRecDepth 100000 in
theorem lifted (os : Os) (started : os.Started) (H : Type) (enc : TypeId × Value → H) :
    ReturnsInHanded {} Try.checked os 3 .any (Rows.coreStopsSpec.pre6 enc Try.prog Try.f3 Rows.coreStopsRow.domain false) (Rows.coreStopsSpec.post enc Try.prog Try.f3 false true false false) := by
  refine returnsInHanded_of_change (C := Try.checked) own started (by kernel_rfl) Try.func3
    (ChangeSpec.witness6 (enc := enc) (C := Try.checked) false ⟨#[], #[.agg #[.int .i8 0, .int .i8 0, .int .i8 0, .int .i8 0, .int .i64 0], .agg #[.int .u64 0, .int .u64 0, .int .u64 0, .int .u64 0, .int .u64 0, .int .u64 0, .int .u64 0, .int .u64 0], .int .i64 0, .agg #[.bool false, .int .i64 0, .int .u64 0, .int .i64 0, .bool false, .bool false, .int .u64 0, .int .i8 0, .bool false, .int .i64 0, .int .u64 0, .bool false, .bool false]], []⟩ 8 (by kernel_rfl) (by kernel_rfl) (by kernel_rfl) (by kernel_rfl)) ?_
  intro W base args ds gs before hval0 hW hcnd _
  have hval : ∀ (j : Nat) (t : TypeId) (v : Value), Try.f3.params[j]? = some t → args[j]? = some v → Value.okWide Try.prog W .any base t v := hval0
  have hW' := hW
  obtain ⟨p, q, hA0, hV, rfl, hfz, hnd⟩ := hW
  have hA : DataW.TrodAll enc Try.prog W 0 (fun _ => true) true Try.f3.params.toList args.toList ds p := hA0
  obtain ⟨rfl, rfl⟩ := trodVars_none hV
  have hparams : Try.f3.params.toList = [24, 26, 3, 32] := by rw [Try.params3]
  obtain ⟨rfl, hsame, hcall⟩ := Sy.law_parts mixed entered (Sy.memos_ok mixed entered 400 [7, 28]) found (by rw [← hparams]; exact hA) (fun j t v ht hv => hval j t v (by rw [← hparams] at ht; simpa using ht) hv)
  rw [← hparams] at hsame
  have hlen : ds.length = 4 := (Sy.trodAll_len hA).trans (by rw [hparams]; rfl)
  match ds, hlen with
  | [d1, d2, d3, d4], _ =>
    refine hcall.mono fun e W' ⟨he, hg⟩ => ?_
    subst he
    exact ⟨_, rfl, post_of_same (pa := []) (pv := []) hW' (fun _ _ _ => (trodAll_cons_mk (shut_bool Try.underlying4 _) trodAll_mk0)) (fun sp _ => hsame _ _ _ _) (fun _ _ => rfl) rfl
      (hg.frame _) hg.2.1 (ok_one (by kernel_rfl) rfl (okWide_bool_mk Try.underlying4 _))⟩

theorem over : Rows.coreStopsRow.holds Try.pinned (OpenSpec.ofChange Rows.coreStopsSpec) :=
  OpenClaim.holds_of_wide 3 Try.f3 rfl rfl rfl rfl rfl rfl rfl ⟨rfl, rfl, rfl, rfl, rfl⟩ rfl rfl rfl rfl rfl (by kernel_rfl) Try.func3 (by kernel_rfl)
    (of_decide_eq_true (by kernel_rfl)) (by unfold Func.isWrapper; first | (rw [if_pos (by decide +kernel)]; kernel_rfl) | (rw [if_neg (by decide +kernel)]; exact ⟨rfl, rfl⟩))
    (fun os started H enc _ => lifted os started H enc)

theorem holds : Rows.CoreStopsSaid := over
#print axioms holds
end Go.Proofs.Ytbajgalogjplfaa.coreStops
