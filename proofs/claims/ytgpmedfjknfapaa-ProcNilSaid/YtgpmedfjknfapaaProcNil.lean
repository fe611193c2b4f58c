/-
  'Rows.ProcNilSaid': no house has nobody, and a space that forks is as the document says. Conditions: none but those of the row itself.
  By a symbolic evaluator whose soundness is proved in the texts 'YtgpmedfjknfapaaSy..'; the kernel runs it on the law's code.
-/
import Derived.Test.YtgpmedfjknfapaaRows
import Derived.Test.YtgpmedfjknfapaaSyZ
import Derived.Test.YtgpmedfjknfapaaProcNilD
import Derived.Test.YtgpmedfjknfapaaProcNilP0
import Derived.WalkKit
import Derived.ProofKit
import Derived.OpenShut
namespace Go.Proofs.Ytgpmedfjknfapaa.procNil
open Go.ChangeShapes Go.WideShapes Go.ChangeAt Go.RowKit

theorem own : ownKnob Try.prog.godebug = none := by kernel_rfl
theorem mixed : Try.prog.follows .mixedOrders = true := by kernel_rfl
theorem laidOut : laidOutB Try.prog = true := by kernel_rfl
theorem entered : Sy.Enters Try.prog := Sy.enters_of (by kernel_rfl)
theorem found : ∀ j, j ≤ tests.length → Sy.lawPartR Try.prog laid (Sy.lit1s laid (Sy.memos Try.prog 400 []) lits) cuts 400 5 [3, 36, 38] tests j = true := fun j hj => match j, hj with
  | 0, _ => part0
  | n + 1, h => absurd h (by have : tests.length = 0 := rfl; omega)

set_option maxRecDepth 100000 in
theorem lifted (os : Os) (started : os.Started) (H : Type) (enc : TypeId × Value → H) :
    ReturnsInHanded {} Try.checked os 5 .any (Rows.procNilSpec.pre6 enc Try.prog Try.f5 Rows.procNilRow.domain false) (Rows.procNilSpec.post enc Try.prog Try.f5 false true false false) := by
  refine returnsInHanded_of_change (C := Try.checked) own started (by kernel_rfl) Try.func5
    (ChangeSpec.witness6 (enc := enc) (C := Try.checked) false ⟨#[], #[.int .i64 0, .agg #[.int .i64 0, .int .u64 0, .int .u64 0, .int .u64 0, .int .u64 0, .int .u64 0, .int .u64 0, .int .u64 0, .int .u64 0, .int .i64 0, .int .i64 0, .bool false], .agg #[.slice none 0 0, .int .i64 0, .int .i64 0, .int .i64 0, .int .i64 0]], []⟩ 8 (by kernel_rfl) (by kernel_rfl) (by kernel_rfl) (by kernel_rfl)) ?_
  intro W base args ds gs before hval0 hW hcnd _
  have hval : ∀ (j : Nat) (t : TypeId) (v : Value), Try.f5.params[j]? = some t → args[j]? = some v → Value.okWide Try.prog W .any base t v := hval0
  have hW' := hW
  obtain ⟨p, q, hA0, hV, rfl, hfz, hnd⟩ := hW
  have hA : DataW.TrodAll enc Try.prog W 0 (fun _ => true) true Try.f5.params.toList args.toList ds p := hA0
  obtain ⟨rfl, rfl⟩ := trodVars_none hV
  have hparams : Try.f5.params.toList = [3, 36, 38] := by rw [Try.params5]
  have hcall := Sy.law_partsR mixed entered (Sy.lit1s_ok mixed entered (Sy.memos_ok mixed entered 400 []) told) found (Sy.Laid.nil) (by rw [← hparams]; exact hA) (fun j t v ht hv => hval j t v (by rw [← hparams] at ht; simpa using ht) hv)
  have hlen : ds.length = 3 := (Sy.trodAll_len hA).trans (by rw [hparams]; rfl)
  match ds, hlen with
  | [d1, d2, d3], _ =>
    refine hcall.mono fun e W' ⟨he, hg, hb⟩ => ?_
    subst he
    exact ⟨_, rfl, post_of_same (pa := p) (pv := []) hW' (fun _ _ _ => (trodAll_cons_mk (shut_bool Try.underlying4 _) trodAll_mk0))
      (fun sp hsp => Sy.trodAll_stays laidOut hb (by rw [hparams]; exact Sy.readables (by kernel_rfl)) hA (fun x hx => hW'.lt x (by simpa using hx)) (fun x hx => hsp x (by simpa using hx))) (fun _ _ => rfl) rfl
      (hg.frame _) hg.2.1 (ok_one (by kernel_rfl) rfl (okWide_bool_mk Try.underlying4 _))⟩

theorem over : Rows.procNilRow.holds Try.pinned (OpenSpec.ofChange Rows.procNilSpec) :=
  OpenClaim.holds_of_wide 5 Try.f5 rfl rfl rfl rfl rfl rfl rfl ⟨rfl, rfl, rfl, rfl, rfl⟩ rfl rfl rfl rfl rfl (by kernel_rfl) Try.func5 (by kernel_rfl)
    (of_decide_eq_true (by kernel_rfl)) (by unfold Func.isWrapper; first | (rw [if_pos (by decide +kernel)]; kernel_rfl) | (rw [if_neg (by decide +kernel)]; exact ⟨rfl, rfl⟩))
    (fun os started H enc _ => lifted os started H enc)

theorem holds : Rows.ProcNilSaid := over
#print axioms holds
end Go.Proofs.Ytgpmedfjknfapaa.procNil
