/-
  'Rows.CallBackSaid': a request is read as it was made, what was read may be, and a result is read as it was told. Conditions: none but those of the row itself.
  By a symbolic evaluator whose soundness is proved in the texts 'YtfnaglidblldiaaSy..'; the kernel runs it on the law's code.
-/
import Derived.Test.YtfnaglidblldiaaRows
import Derived.Test.YtfnaglidblldiaaSyX
import Derived.WalkKit
import Derived.ProofKit
import Derived.OpenShut
namespace Go.Proofs.Ytfnaglidblldiaa.callBack
open Go.ChangeShapes Go.WideShapes Go.ChangeAt Go.RowKit

theorem own : ownKnob Try.prog.godebug = none := by kernel_rfl
theorem mixed : Try.prog.follows .mixedOrders = true := by kernel_rfl
theorem entered : Sy.Enters Try.prog := Sy.enters_of (by kernel_rfl)
theorem found : Sy.lawOkT Try.prog (Sy.memos Try.prog 300 [8, 16]) [⟨6, [2, 3, 6], 10⟩, ⟨13, [2, 6], 100⟩] 300 6 [25, 28, 3] = true := by kernel_rfl

set_option maxRecDepth 100000 in
theorem lifted (os : Os) (started : os.Started) (H : Type) (enc : TypeId × Value → H) :
    ReturnsInHanded {} Try.checked os 6 .any (Rows.callBackSpec.pre6 enc Try.prog Try.f6 Rows.callBackRow.domain false) (Rows.callBackSpec.post enc Try.prog Try.f6 false true false false) := by
  refine returnsInHanded_of_change (C := Try.checked) own started (by kernel_rfl) Try.func6
    (ChangeSpec.witness6 (enc := enc) (C := Try.checked) false ⟨#[], #[.agg #[.int .u64 0, .int .u64 0, .int .u64 0, .int .u64 0], .agg #[.int .i8 0, .int .u64 0, .int .i64 0, .bool false, .int .i64 0], .int .i64 0], []⟩ 8 (by kernel_rfl) (by kernel_rfl) (by kernel_rfl) (by kernel_rfl)) ?_
  intro W base args ds gs before hval0 hW hcnd _
  have hval : ∀ (j : Nat) (t : TypeId) (v : Value), Try.f6.params[j]? = some t → args[j]? = some v → Value.okWide Try.prog W .any base t v := hval0
  have hW' := hW
  obtain ⟨p, q, hA0, hV, rfl, hfz, hnd⟩ := hW
  have hA : DataW.TrodAll enc Try.prog W 0 (fun _ => true) true Try.f6.params.toList args.toList ds p := hA0
  obtain ⟨rfl, rfl⟩ := trodVars_none hV
  have hparams : Try.f6.params.toList = [25, 28, 3] := by rw [Try.params6]
  obtain ⟨rfl, hsame, hcall⟩ := Sy.law_callsT mixed entered (Sy.memos_ok mixed entered 300 [8, 16]) found (by rw [← hparams]; exact hA) (fun j t v ht hv => hval j t v (by rw [← hparams] at ht; simpa using ht) hv)
  rw [← hparams] at hsame
  have hlen : ds.length = 3 := (Sy.trodAll_len hA).trans (by rw [hparams]; rfl)
  match ds, hlen with
  | [d1, d2, d3], _ =>
    refine hcall.mono fun e W' ⟨he, hg⟩ => ?_
    subst he
    exact ⟨_, rfl, post_of_same (pa := []) (pv := []) hW' (fun _ _ _ => (trodAll_cons_mk (shut_bool Try.underlying4 _) trodAll_mk0)) (fun sp _ => hsame _ _ _ _) (fun _ _ => rfl) rfl
      (hg.frame _) hg.2.1 (ok_one (by kernel_rfl) rfl (okWide_bool_mk Try.underlying4 _))⟩

theorem over : Rows.callBackRow.holds Try.pinned (OpenSpec.ofChange Rows.callBackSpec) :=
  OpenClaim.holds_of_wide 6 Try.f6 rfl rfl rfl rfl rfl rfl rfl ⟨rfl, rfl, rfl, rfl, rfl⟩ rfl rfl rfl rfl rfl (by kernel_rfl) Try.func6 (by kernel_rfl)
    (of_decide_eq_true (by kernel_rfl)) (by unfold Func.isWrapper; first | (rw [if_pos (by decide +kernel)]; kernel_rfl) | (rw [if_neg (by decide +kernel)]; exact ⟨rfl, rfl⟩))
    (fun os started H enc _ => lifted os started H enc)

theorem holds : Rows.CallBackSaid := over
#print axioms holds
end Go.Proofs.Ytfnaglidblldiaa.callBack
